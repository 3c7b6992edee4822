/-
  The references: Canon, Check, two, Meet.
-/
import Derived.Test.YtipniooflaiikaaB1
import Derived.Test.YtipniooflaiikaaA4
set_option linter.unusedVariables false
set_option linter.unusedSimpArgs false
namespace Go.Proofs.Ytipniooflaiikaa
open Go.RowKit Go.Shelf

theorem can_fit (e : Nat → Nat → Bool) {n : Nat} (hn : n ≤ 100000) : ∀ i, i < n → Fits (can e i : Int) := fun i hi => by
  have := can_le e i
  exact ⟨by omega, by omega⟩
set_option maxRecDepth 100000 in
set_option maxHeartbeats 2000000 in
theorem rcanon_ok (n c : Nat) (A : Option Addr) (z : Nat → Int) (w : World) (ha : ArgI .i64 w A n c z) (hn : n ≤ 1000) :
    Calls Try.prog 31 #[.slice A n c] w fun e w' => ∃ A' c', e = .returned (.slice A' n c') ∧ ArgI .i64 w' A' n c' (fun i => (can (eqZ z) i : Int)) ∧ Below w.heap.size w w' := by
  have hn63 := ha.2.1
  have hnc := ha.1
  have HEQ := Lib.hid (eqv_of z n)
  have HF := Lib.hid (can_fit (eqZ z) (n := n) (by omega))
  go_enter Try.func31, Try.ntmps31
  go_wp2_with fail
  go_loopw [3, 4, 5] (fun vo vi _ wr => ∃ (i : Nat) (A1 : Option Addr) (d1 : Nat), vo = .slice A1 i d1 ∧ vi = .int .i64 i ∧ i ≤ n ∧ wr.ownsRow w.heap.size 3 1 (.slice A1 i d1) i (vals (fun j => (can (eqZ z) j : Int)) i) ∧ Below w.heap.size w wr) (fun _ vi _ _ => n - (intOf vi).toNat)
  case atStart => exact ⟨0, none, 0, rfl, rfl, Nat.zero_le _, World.ownsRow_nil _ _ _ _, Below.refl _ _⟩
  case round =>
    obtain ⟨i, A1, d1, rfl, rfl, hi, ho, q⟩ := hrel
    have hq := q.size
    by_cases hlt : i < n
    · have ha1 := ha.below q
      obtain ⟨F, hF⟩ : ∃ F, can (eqZ z) i = F := ⟨_, rfl⟩
      have hFi : F ≤ i := by rw [← hF]; exact can_le _ _
      have HM := Lib.hid (show (∀ f, f < F → z f ≠ z i) ∧ z F = z i from by
        refine ⟨fun f hf => ?_, ?_⟩
        · have h := can_min (e := eqZ z) (i := i) (j := f) (by omega)
          simpa [eqZ] using h
        · have h := can_is HEQ.out hlt
          have hF' : can (fun j k => decide (z j = z k)) i = F := hF
          rw [hF'] at h
          simpa using h)
      have hin : (i : Int) < (n : Int) := by omega
      have HC := Lib.hid (And.intro (cat_one (fun j => (can (eqZ z) j : Int)) i (show ((can (eqZ z) i : Nat) : Int) = (F : Int) by rw [hF])) (fun j (hj : j < i + 1) => HF.out j (by omega)))
      clear hF
      go_wp2_with fail
      obtain ⟨w1, e1⟩ : ∃ w1 : World, w1 = wr := ⟨_, rfl⟩
      subst e1
      go_loopw [5] (fun vf wr => ∃ f : Nat, vf = .int .i64 f ∧ f ≤ F ∧ ∃ m, wr = w1.drewN m) (fun vf _ => n - (intOf vf).toNat)
      case atStart => exact ⟨0, rfl, Nat.zero_le _, 0, rfl⟩
      case round =>
        obtain ⟨f, rfl, hf, m, rfl⟩ := hrel
        obtain ⟨g, o, rfl, hg, hc⟩ := ha1.2.2.1 (by omega)
        have c1 := hc f (by omega)
        have c2 := hc i (by omega)
        have hfn : (f : Int) < (n : Int) := by omega
        obtain ⟨u, hu⟩ : ∃ u, z f = u := ⟨_, rfl⟩
        obtain ⟨v, hv⟩ : ∃ v, z i = v := ⟨_, rfl⟩
        have HU := Lib.hid (And.intro hu hv)
        rw [hu] at c1
        rw [hv] at c2
        clear hc hu hv
        by_cases hlt2 : f < F
        · have hne : (u == v) = false := by
            have h := HM.out.1 f hlt2
            rw [HU.out.1, HU.out.2] at h
            simpa using h
          go_wp2_with fail
          go_quiet (fail)
          go_wp2_with fail
          go_roundw
          case rel => exact ⟨f + 1, by simp, by omega, m + nq, by first | rfl | simp⟩
          case measure => simp [intOf]; omega
        · obtain rfl : f = F := by omega
          have huv : u = v := by rw [← HU.out.1, ← HU.out.2]; exact HM.out.2
          subst huv
          go_wp2_with fail
          go_quiet (fail)
          generalize hn1 : m + nq = n1
          have ho1 := own_below ho (below_drewN (Below.refl _ _) n1)
          have q1 := below_drewN q n1
          have hq1 := q1.size
          rw [World.drewN_drewN, hn1]
          generalize w1.drewN n1 = w2 at *
          have hfx : Fits (f : Int) := ⟨by omega, by omega⟩
          have hoA : (w2.alloc (.cells #[.int .i64 (f : Int)] 3)).ownsRow w.heap.size 3 1 (.slice A1 i d1) i (vals (fun j => (can (eqZ z) j : Int)) i) := own_below ho1 (below_new1 w2 _)
          have hxA : ArgI .i64 (w2.alloc (.cells #[.int .i64 (f : Int)] 3)) (some ⟨w2.heap.size, 0, none⟩) 1 1 (fun _ => (f : Int)) := argI_one w2 f hfx
          have HOB := Lib.hid (own_base ho1)
          have qA : Below w.heap.size w (w2.alloc (.cells #[.int .i64 (f : Int)] 3)) := q1.alloc hq1 _
          have hzA : w.heap.size ≤ (w2.alloc (.cells #[.int .i64 (f : Int)] 3)).heap.size := by simp; omega
          clear hfx ho1 ho
          go_wp2_with (at_builtin; refine wpList_append_ints rfl _ _ rfl w.heap.size (.slice A1 i d1) i (fun j => (can (eqZ z) j : Int)) rfl hoA (some ⟨w2.heap.size, 0, none⟩) 1 1 (fun _ => (f : Int)) rfl hxA (fun h => by cases h) (by omega) hzA ?_; intro v' w3 hown hgrow; rw [vals_ext HC.out.1] at hown; have hb3 := qA.grown hgrow hzA HOB.out; obtain ⟨A2, d2, rfl, hC2, _, hCg2⟩ := own_arg hown HC.out.2)
          go_roundw
          case rel => exact ⟨i + 1, A2, d2, rfl, by simp, by omega, hown, hb3⟩
          case measure => simp [intOf]; omega
    · obtain rfl : i = n := by omega
      obtain ⟨A0, d0, e0, aB, aN, aG⟩ := own_arg ho HF.out
      cases e0
      clear ho
      go_wp2_with fail
      go_ret
      exact ⟨_, _, rfl, aB, q⟩
theorem canZ_iff {z : Nat → Int} {n : Nat} : CanZ z n ↔ ∀ i, i < n → z i = (can (eqZ z) i : Int) := by
  constructor
  · intro h i hi
    obtain ⟨a, ha, ea⟩ := h.nat
    rw [ea i hi, ← can_self ha hi]
    congr 1
    refine (low_congr fun j hj => ?_).symm
    unfold eqZ
    rw [decide_eq_decide, ea j (by omega), ea i hi]
    exact Int.ofNat_inj
  · intro h
    exact (CanZ.of (can_can (eqv_of z n))).congr fun i hi => (h i hi).symm

set_option maxRecDepth 100000 in
set_option maxHeartbeats 2000000 in
theorem rcheck_ok (n c : Nat) (A : Option Addr) (z : Nat → Int) (w : World) (ha : ArgI .i64 w A n c z) (hn : n ≤ 1000) :
    Calls Try.prog 32 #[.slice A n c] w fun e w' => ((e = .returned (.int .i64 0) ∧ CanZ z n) ∨ (e = .returned (.int .i64 2) ∧ ¬ CanZ z n)) ∧ Below w.heap.size w w' := by
  have x0 := rcanon_ok n c A z w ha hn
  have hn63 := ha.2.1
  have hnc := ha.1
  go_enter Try.func32, Try.ntmps32
  go_wp2_with fail
  refine x0.mono ?_
  rintro e w1 ⟨B, d, rfl, hb, v⟩
  have ha := ha.below v
  have hmd := hb.1
  clear x0
  go_wp2_with fail
  go_loopw [4] (fun vi wr => ∃ i : Nat, vi = .int .i64 i ∧ i ≤ n ∧ Hid (∀ j, j < i → z j = (can (eqZ z) j : Int)) ∧ ∃ m, wr = w1.drewN m) (fun vi _ => n - (intOf vi).toNat)
  case atStart => exact ⟨0, rfl, Nat.zero_le _, Lib.hid (fun j hj => by omega), 0, rfl⟩
  case round =>
    obtain ⟨i, rfl, hi, HJ, m, rfl⟩ := hrel
    by_cases hlt : i < n
    · obtain ⟨g, o, rfl, hg, hcell⟩ := ha.2.2.1 (by omega)
      obtain ⟨g', o', rfl, hg', hcell'⟩ := hb.2.2.1 (by omega)
      have c1 := hcell i hlt
      have c2 : w1.cell? ⟨g', o' + i, none⟩ = some (Value.int .i64 (can (eqZ z) i : Int)) := hcell' i hlt
      have hin : (i : Int) < (n : Int) := by omega
      clear hcell hcell'
      obtain ⟨u, hu⟩ : ∃ u, z i = u := ⟨_, rfl⟩
      obtain ⟨y, hy⟩ : ∃ y, (can (eqZ z) i : Int) = y := ⟨_, rfl⟩
      have HU := Lib.hid (And.intro hu hy)
      rw [hu] at c1
      rw [hy] at c2
      clear hu hy
      by_cases huy : u = y
      · have HJ2 := Lib.hid (show ∀ j, j < i + 1 → z j = (can (eqZ z) j : Int) from fun j hj => by
          rcases Nat.lt_or_ge j i with h1 | h1
          · exact HJ.out j h1
          · obtain rfl : j = i := by omega
            rw [HU.out.1, HU.out.2]; exact huy)
        subst huy
        go_wp2_with fail
        go_quiet (fail)
        go_wp2_with fail
        go_roundw
        case rel => exact ⟨i + 1, by simp, by omega, HJ2, m + nq, by first | rfl | simp⟩
        case measure => simp [intOf]; omega
      · have HD := Lib.hid (show ¬ CanZ z n from fun h => huy (by rw [← HU.out.1, ← HU.out.2]; exact canZ_iff.1 h i hlt))
        have huy1 : (u == y) = false := by simpa using huy
        go_wp2_with fail
        go_quiet (fail)
        go_wp2_with fail
        go_ret
        exact ⟨Or.inr ⟨rfl, HD.out⟩, below_drewN (below_drewN v m) nq⟩
    · obtain rfl : i = n := by omega
      have HD := Lib.hid (canZ_iff.2 HJ.out)
      go_wp2_with fail
      go_ret
      exact ⟨Or.inl ⟨rfl, HD.out⟩, below_drewN v m⟩
set_option maxRecDepth 100000 in
theorem rtwo_ok (n m c d : Nat) (A B : Option Addr) (z y : Nat → Int) (w : World) (ha : ArgI .i64 w A n c z) (hb : ArgI .i64 w B m d y) (hn : n ≤ 1000) (hm : m ≤ 1000) :
    Calls Try.prog 39 #[.slice A n c, .slice B m d] w fun e w' => ((e = .returned (.int .i64 0) ∧ Two n m z y) ∨ (e = .returned (.int .i64 2) ∧ ¬ Two n m z y)) ∧ Below w.heap.size w w' := by
  have x0 := rcheck_ok n c A z w ha hn
  have hnc := ha.1
  have hmd := hb.1
  go_enter Try.func39, Try.ntmps39
  go_wp2_with fail
  refine x0.mono ?_
  rintro e w1 ⟨⟨rfl, h1⟩ | ⟨rfl, h1⟩, v1⟩
  · have H1 := Lib.hid h1
    have y0 := rcheck_ok m d B y w1 (hb.below v1) hm
    have hq := v1.size
    clear h1 x0
    go_wp2_with fail
    refine y0.mono ?_
    rintro e w2 ⟨⟨rfl, h2⟩ | ⟨rfl, h2⟩, v2⟩
    · have q := below_end v1 hq v2
      by_cases hnm : n = m
      · subst hnm
        have HT := Lib.hid (show Two n n z y from ⟨H1.out, h2, rfl⟩)
        clear h2
        go_wp2_with fail
        go_ret
        exact ⟨Or.inl ⟨rfl, HT.out⟩, q⟩
      · have h3 : ((n : Int) == (m : Int)) = false := by simp; omega
        have h4 : ¬ (n : Int) = (m : Int) := by omega
        have HT := Lib.hid (show ¬ Two n m z y from fun k => hnm k.2.2)
        clear h2 hnm
        go_wp2_with fail
        go_ret
        exact ⟨Or.inr ⟨rfl, HT.out⟩, q⟩
    · have q := below_end v1 hq v2
      have HT := Lib.hid (show ¬ Two n m z y from fun k => h2 k.2.1)
      clear h2
      go_wp2_with fail
      go_ret
      exact ⟨Or.inr ⟨rfl, HT.out⟩, q⟩
  · have HT := Lib.hid (show ¬ Two n m z y from fun k => h1 k.1)
    clear h1
    go_wp2_with fail
    go_ret
    exact ⟨Or.inr ⟨rfl, HT.out⟩, v1⟩
end Go.Proofs.Ytipniooflaiikaa
