/-
  PartitionRenames, walked.
-/
import Derived.Test.YtipniooflaiikaaB1
import Derived.Test.YtipniooflaiikaaA9
set_option linter.unusedVariables false
set_option linter.unusedSimpArgs false
namespace Go.Proofs.Ytipniooflaiikaa
open Go.RowKit Go.Shelf

/-- a number with another name -/
def mv (more : Int) (turn : Bool) (x : Int) : Int := if turn = true then wrap64 (-wrap64 (x + more)) else wrap64 (x + more)
theorem mv_fits (more : Int) (turn : Bool) (x : Int) : Fits (mv more turn x) := by
  unfold mv
  split <;> unfold wrap64 <;> constructor <;> omega
theorem mv_inj {more : Int} {turn : Bool} {x y : Int} (hx : Fits x) (hy : Fits y) : (mv more turn x = mv more turn y) ↔ x = y := by
  obtain ⟨x0, x1⟩ := hx
  obtain ⟨y0, y1⟩ := hy
  constructor
  · intro h
    unfold mv at h
    split at h
    · unfold wrap64 at h; omega
    · unfold wrap64 at h; omega
  · intro h; rw [h]
theorem can_congr {e f : Nat → Nat → Bool} {i : Nat} (h : ∀ j, j < i → e j i = f j i) : can e i = can f i := low_congr h
theorem can_mv {n : Nat} {z : Nat → Int} (more : Int) (turn : Bool) (hz : ∀ j, j < n → Fits (z j)) : ∀ i, i < n → (can (eqZ fun j => mv more turn (z j)) i : Int) = (can (eqZ z) i : Int) := fun i hi => by
  rw [can_congr (f := eqZ z) fun j hj => by unfold eqZ; rw [decide_eq_decide]; exact mv_inj (hz j (by omega)) (hz i hi)]
theorem can_row (z : Nat → Int) (n : Nat) : CanZ (fun i => (can (eqZ z) i : Int)) n := CanZ.of (can_can (eqv_of z n))
theorem can_again (z : Nat → Int) (n : Nat) : ∀ i, i < n → (can (eqZ fun j => (can (eqZ z) j : Int)) i : Int) = (can (eqZ z) i : Int) := fun i hi => by
  have h := can_self (can_can (eqv_of z n)) hi
  rw [← show can (fun j k => decide (can (eqZ z) j = can (eqZ z) k)) i = can (eqZ z) i from h]
  rw [can_congr (f := fun j k => decide (can (eqZ z) j = can (eqZ z) k)) fun j hj => by unfold eqZ; rw [decide_eq_decide]; exact Int.ofNat_inj]
theorem can_fits (e : Nat → Nat → Bool) {n : Nat} (hn : n ≤ 1000000) : ∀ i, i < n → (Lit.int .i64 (can e i : Int)).wf = true := fun i hi => by
  have := can_le e i
  exact fits_wf ⟨by omega, by omega⟩
set_option maxRecDepth 100000 in
set_option maxHeartbeats 4000000 in
theorem renames_walk (n c : Nat) (A : Option Addr) (z : Nat → Int) (more : Int) (turn : Bool) (w : World) (ha : ArgI .i64 w A n c z) (hA : A = none → n = 0 ∧ c = 0) (hm : Fits more) :
    Calls Try.prog 6 #[.slice A n c, .int .i64 more, .bool turn] w fun e w' => e = .returned (.bool true) ∧ Below w.heap.size w w' := by
  have hn63 := ha.2.1
  have hnc := ha.1
  by_cases hgt : 100 < n
  · have hgt : (100 : Int) < (n : Int) := by omega
    go_enter Try.func6, Try.ntmps6
    go_wp2_with fail
    refine (works_ok w).mono ?_
    rintro e w' ⟨rfl, q⟩
    go_wp2_with fail
    go_ret
    exact ⟨rfl, q⟩
  have hng : ¬ (100 : Int) < (n : Int) := by omega
  have HZ := Lib.hid (show ∀ j, j < n → Fits (z j) from fun j hj => wf_i64 (ha.2.2.2 j hj))
  go_enter Try.func6, Try.ntmps6
  go_wp2_with fail
  go_loopw [7, 8, 9] (fun vo vi _ wr => ∃ (i : Nat) (A1 : Option Addr) (d1 : Nat), vo = .slice A1 i d1 ∧ vi = .int .i64 i ∧ i ≤ n ∧ wr.ownsRow w.heap.size 3 1 (.slice A1 i d1) i (vals (fun j => mv more turn (z j)) i) ∧ Below w.heap.size w wr) (fun _ vi _ _ => n - (intOf vi).toNat)
  case atStart => exact ⟨0, none, 0, rfl, rfl, Nat.zero_le _, World.ownsRow_nil _ _ _ _, Below.refl _ _⟩
  case round =>
    obtain ⟨i, A1, d1, rfl, rfl, hi, ho, q⟩ := hrel
    have hq := q.size
    by_cases hlt : i < n
    · have ha1 := ha.below q
      obtain ⟨g, o, rfl, hg, hc⟩ := ha1.2.2.1 (by omega)
      have ci := hc i (by omega)
      have hin : (i : Int) < (n : Int) := by omega
      have HC := Lib.hid (And.intro (cat_one (fun j => mv more turn (z j)) i rfl) (fun j (hj : j < i + 1) => mv_fits more turn (z j)))
      obtain ⟨x, hx⟩ : ∃ x, z i = x := ⟨_, rfl⟩
      simp only [hx] at ci HC
      obtain ⟨y, hy⟩ : ∃ y, mv more turn x = y := ⟨_, rfl⟩
      have hfy : Fits y := by rw [← hy]; exact mv_fits _ _ _
      rw [hy] at HC
      have hoA : (wr.alloc (.cells #[.int .i64 y] 3)).ownsRow w.heap.size 3 1 (.slice A1 i d1) i (vals (fun j => mv more turn (z j)) i) := own_below ho (below_new1 wr _)
      have hxA : ArgI .i64 (wr.alloc (.cells #[.int .i64 y] 3)) (some ⟨wr.heap.size, 0, none⟩) 1 1 (fun _ => y) := argI_one wr y hfy
      have HOB := Lib.hid (own_base ho)
      have qA : Below w.heap.size w (wr.alloc (.cells #[.int .i64 y] 3)) := q.alloc hq _
      have hzA : w.heap.size ≤ (wr.alloc (.cells #[.int .i64 y] 3)).heap.size := by simp; omega
      clear hc hx hfy ho ha1
      cases turn with
      | true =>
        have hy : wrap64 (-wrap64 (x + more)) = y := hy
        go_wp2_with (at_builtin; refine wpList_append_ints rfl _ _ rfl w.heap.size (.slice A1 i d1) i (fun j => mv more true (z j)) rfl hoA (some ⟨wr.heap.size, 0, none⟩) 1 1 (fun _ => y) rfl hxA (fun h => by cases h) (by omega) hzA ?_; intro v' w3 hown hgrow; rw [vals_ext HC.out.1] at hown; have hb3 := qA.grown hgrow hzA HOB.out; obtain ⟨A2, d2, rfl, hC2, _, hCg2⟩ := own_arg hown HC.out.2)
        go_roundw
        case rel => exact ⟨i + 1, A2, d2, rfl, by simp, by omega, hown, hb3⟩
        case measure => simp [intOf]; omega
      | false =>
        have hy : wrap64 (x + more) = y := hy
        go_wp2_with (at_builtin; refine wpList_append_ints rfl _ _ rfl w.heap.size (.slice A1 i d1) i (fun j => mv more false (z j)) rfl hoA (some ⟨wr.heap.size, 0, none⟩) 1 1 (fun _ => y) rfl hxA (fun h => by cases h) (by omega) hzA ?_; intro v' w3 hown hgrow; rw [vals_ext HC.out.1] at hown; have hb3 := qA.grown hgrow hzA HOB.out; obtain ⟨A2, d2, rfl, hC2, _, hCg2⟩ := own_arg hown HC.out.2)
        go_roundw
        case rel => exact ⟨i + 1, A2, d2, rfl, by simp, by omega, hown, hb3⟩
        case measure => simp [intOf]; omega
    · obtain rfl : i = n := by omega
      obtain ⟨A0, d0, e0, aB, aN, aG⟩ := own_arg ho (fun j hj => mv_fits more turn (z j))
      cases e0
      have ha1 := ha.below q
      have x0 := canon_ok i c A z wr ha1 (by omega)
      have HCM := Lib.hid (can_mv more turn HZ.out)
      have HCR := Lib.hid (And.intro (can_row z i) (can_again z i))
      have HAB := Lib.hid aB
      have HF := Lib.hid (can_fits (eqZ z) (n := i) (by omega))
      have hi100 : i ≤ 100 := by omega
      clear ho aN aG hlt aB ha1
      go_wp2_with fail
      refine x0.mono ?_
      rintro e w1 ⟨s1, rfl, r1, hs1, v1⟩
      have x1 := canon_ok i d1 A1 _ w1 (HAB.out.below v1) (by omega)
      have q1 := below_end q hq v1
      have hq1 := q1.size
      go_wp2_with fail
      refine x1.mono ?_
      rintro e w2 ⟨s2, rfl, r2, hs2, v2⟩
      have r1 := r1.below' v2
      have q2 := below_end q1 hq1 v2
      have hq2 := q2.size
      have r2 := r2.congr HCM.out
      have a1 := r1.arg (by omega) HF.out
      have a2 := r2.arg (by omega) HF.out
      have x2 := same_yes i i i _ _ _ w2 a1 a2 (by omega)
      clear x0 x1 r1 r2 a2 HCM HAB
      go_wp2_with fail
      refine x2.mono ?_
      rintro e w3 ⟨rfl, m, hw3⟩
      have v3 : Below w2.heap.size w2 w3 := by rw [hw3]; exact below_drewN (Below.refl _ _) m
      have a1 := a1.below v3
      have q3 := below_end q2 hq2 v3
      have hq3 := q3.size
      clear hw3 x2
      have x3 := check_ok i i _ _ w3 a1
      have x4 := canon_ok i i _ _ w3 a1 (by omega)
      go_wp2_with fail
      refine x3.mono ?_
      rintro e w3' ⟨⟨rfl, _⟩ | ⟨rfl, hno⟩, rfl⟩
      case inr => exact (hno HCR.out.1).elim
      clear x3
      go_wp2_with fail
      refine x4.mono ?_
      rintro e w4 ⟨s4, rfl, r4, hs4, v4⟩
      have r4 := r4.congr HCR.out.2
      have x5 := same_yes i i i _ _ _ w4 (r4.arg (by omega) HF.out) (a1.below v4) (by omega)
      have q4 := below_end q3 hq3 v4
      have hq4 := q4.size
      clear x4 r4 a1
      go_wp2_with fail
      refine x5.mono ?_
      rintro e w5 ⟨rfl, m5, hw5⟩
      have v5 : Below w4.heap.size w4 w5 := by rw [hw5]; exact below_drewN (Below.refl _ _) m5
      have q5 := below_end q4 hq4 v5
      have hq5 := q5.size
      have x6 := works_ok w5
      clear hw5 x5
      go_wp2_with fail
      refine x6.mono ?_
      rintro e w6 ⟨rfl, v6⟩
      have q6 := below_end q5 hq5 v6
      go_wp2_with fail
      go_ret
      exact ⟨rfl, q6⟩
end Go.Proofs.Ytipniooflaiikaa
