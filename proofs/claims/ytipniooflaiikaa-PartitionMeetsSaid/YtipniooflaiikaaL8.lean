/-
  PartitionMeets, walked.
-/
import Derived.Test.YtipniooflaiikaaE4
import Derived.Test.YtipniooflaiikaaE5
import Derived.Test.YtipniooflaiikaaA9
set_option linter.unusedVariables false
set_option linter.unusedSimpArgs false
namespace Go.Proofs.Ytipniooflaiikaa
open Go.RowKit Go.Shelf

set_option maxRecDepth 100000 in
theorem copied2_ok (n c : Nat) (A : Option Addr) (z : Nat → Int) (w : World) (ha : ArgI .i64 w A n c z) (hA : A = none → n = 0 ∧ c = 0) (hn : n ≤ 100000) :
    Calls Try.prog 17 #[.slice A n c] w fun e w' => ∃ A' c', e = .returned (.slice A' n c') ∧ ArgI .i64 w' A' n c' z ∧ (A' = none → n = 0 ∧ c' = 0) ∧ Below w.heap.size w w' := by
  have hb0 := below_new1 w (.cells #[] 3)
  have ha0 := ha.below hb0
  have hz : ∀ j, j < n → Fits (z j) := fun j hj => wf_i64 (ha.2.2.2 j hj)
  have HZ := Lib.hid hz
  clear hz
  have hown0 : (w.alloc (.cells #[] 3)).ownsRow w.heap.size 3 1 (.slice (some ⟨w.heap.size, 0, none⟩) 0 0) 0 (vals (fun _ => 0) 0) :=
    ⟨rfl, .inr ⟨w.heap.size, 0, #[], rfl, Nat.le_refl _, Blk.new w 3 #[], Nat.le_refl _, by simp [maxLen], rfl, rfl⟩⟩
  have hsz : w.heap.size ≤ (w.alloc (.cells #[] 3)).heap.size := by simp
  go_enter Try.func17, Try.ntmps17
  go_wp2_with (at_builtin; refine wpList_append_ints rfl _ _ rfl w.heap.size (.slice (some ⟨w.heap.size, 0, none⟩) 0 0) 0 (fun _ => 0) rfl hown0 A n c z rfl ha0 hA (by omega) hsz ?_; intro v' w1 hown hgrow)
  have hb1 := hb0.grown hgrow hsz (fun k hk => by simp [Value.ownBlock] at hk; omega)
  rw [Nat.zero_add, vals_ext (y := z) (fun j hj => by unfold cat; rw [if_neg (by omega)]; rfl)] at hown
  obtain ⟨A', c', rfl, h1, h2, h3⟩ := own_arg hown HZ.out
  go_ret
  exact ⟨A', c', rfl, h1, h2, hb1⟩
/-- a call that returns such a list and an error -/
def GivesL (f : Nat) (args : Array Value) (w : World) (N : Nat) (zz : Nat → Int) (e : Int) : Prop :=
  ∀ W, Below w.heap.size w W → Calls Try.prog f args W fun en w' => ∃ A' c', en = .returned (.tuple #[.slice A' N c', .int .i64 e]) ∧ ArgI .i64 w' A' N c' zz ∧ Below W.heap.size W w'
/-- a call that returns true or not, and an error -/
def GivesB (f : Nat) (args : Array Value) (w : World) (v : Bool) (e : Int) : Prop :=
  ∀ W, Below w.heap.size w W → Calls Try.prog f args W fun en w' => en = .returned (.tuple #[.bool v, .int .i64 e]) ∧ Below W.heap.size W w'
theorem meets_both (n m c d c2 d2 : Nat) (A B X Y : Option Addr) (z y : Nat → Int) (w : World) (ha : ArgI .i64 w A n c z) (hb : ArgI .i64 w B m d y) (hx : ArgI .i64 w X n c2 z) (hX : X = none → n = 0 ∧ c2 = 0) (hy : ArgI .i64 w Y m d2 y) (hn : n ≤ 1000) (hm : m ≤ 1000) :
    ∃ N zz e M jj g v k, GivesL 25 #[.slice X n c2, .slice Y m d2] w N zz e ∧ GivesL 26 #[.slice A n c, .slice B m d] w N zz e ∧ GivesL 27 #[.slice X n c2, .slice Y m d2] w M jj g ∧ GivesL 28 #[.slice A n c, .slice B m d] w M jj g ∧
      GivesB 29 #[.slice X n c2, .slice Y m d2] w v k ∧ GivesB 30 #[.slice A n c, .slice B m d] w v k ∧ N ≤ 1000 ∧ M ≤ 1000 := by
  by_cases hT : Two n m z y
  · obtain ⟨a, b, hnm, hca, hcb, ea, eb⟩ := hT.nat
    subst hnm
    obtain ⟨r0, h0⟩ : ∃ r0 : Nat → Nat, ∀ r, IsJoin a b n r → ∀ i, i < n → r i = r0 i := by
      by_cases h : ∃ r, IsJoin a b n r
      · exact ⟨h.choose, fun r hr i hi => hr.unique h.choose_spec hi⟩
      · exact ⟨fun _ => 0, fun r hr => absurd ⟨r, hr⟩ h⟩
    obtain ⟨v, hv⟩ : ∃ v : Bool, (v = true ↔ RefZ z y n) := by
      by_cases h : RefZ z y n
      · exact ⟨true, ⟨fun _ => h, fun _ => rfl⟩⟩
      · exact ⟨false, ⟨(fun k => by cases k), fun k => absurd k h⟩⟩
    have hRZ : RefZ z y n ↔ Ref a b n := by
      rw [ref_iff hca]
      constructor
      · intro h i j h1 h2 h3
        have := h i j h1 h2 (by rw [ea i h2, ea j (by omega), h3])
        rw [eb i h2, eb j (by omega)] at this
        exact Int.ofNat_inj.1 this
      · intro h i j h1 h2 h3
        rw [ea i h2, ea j (by omega)] at h3
        rw [eb i h2, eb j (by omega), h i j h1 h2 (Int.ofNat_inj.1 h3)]
    refine ⟨n, fun i => (can (eqP z y) i : Int), 0, n, fun i => (r0 i : Int), 0, v, 0, fun W hv => ?_, fun W hv => ?_, fun W hv => ?_, fun W hv => ?_, fun W hw => ?_, fun W hw => ?_, hn, hn⟩
    · refine (meet_ok n n c2 d2 X Y z y W (hx.below hv) (hy.below hv) (by omega)).mono ?_
      rintro e w' (⟨hno, _⟩ | ⟨_, s, rfl, hr, _, hq⟩)
      · exact (hno hT).elim
      · exact ⟨_, _, rfl, hr.arg (by omega) (fun i hi => by have := can_le (eqP z y) i; exact fits_wf ⟨by omega, by omega⟩), hq⟩
    · refine (rmeet_ok n n c d A B z y W (ha.below hv) (hb.below hv) hn hm).mono ?_
      rintro e w' ⟨⟨hno, _⟩ | ⟨_, A', c', rfl, hr⟩, hq⟩
      · exact (hno hT).elim
      · exact ⟨_, _, rfl, hr, hq⟩
    · refine (join_ok n n c2 d2 X Y z y W (hx.below hv) (hy.below hv) hX (by omega)).mono ?_
      rintro e w' (⟨hno, _⟩ | ⟨_, s, r, rfl, hr, hj, _, hq⟩)
      · exact (hno hT).elim
      · have hj := hj a b ea eb
        have h := RowF.arg hr (by omega) (fun i hi => by have := hj.le i hi; exact fits_wf ⟨by omega, by omega⟩)
        exact ⟨_, _, rfl, h.congr (fun i hi => by show (r i : Int) = (r0 i : Int); rw [h0 r hj i hi]), hq⟩
    · refine (rjoin_ok n n c d A B z y W (ha.below hv) (hb.below hv) hn hm).mono ?_
      rintro e w' ⟨⟨hno, _⟩ | ⟨_, A', c', r, rfl, hr, hj⟩, hq⟩
      · exact (hno hT).elim
      · have hj := hj a b ea eb
        exact ⟨_, _, rfl, hr.congr (fun i hi => by show (r i : Int) = (r0 i : Int); rw [h0 r hj i hi]), hq⟩
    · refine (refines_ok n n c2 d2 X Y z y W (hx.below hw) (hy.below hw) (by omega)).mono ?_
      rintro e w' ⟨⟨hno, _⟩ | ⟨_, u, rfl, hu⟩, k, rfl⟩
      · exact (hno hT).elim
      · have : u = v := by rw [Bool.eq_iff_iff, hu a b ea eb, hv, hRZ]
        rw [this]
        exact ⟨rfl, below_drewN (Below.refl _ _) k⟩
    · refine (rrefines_ok n n c d A B z y W (ha.below hw) (hb.below hw) hn hm).mono ?_
      rintro e w' ⟨⟨hno, _⟩ | ⟨_, u, rfl, hu⟩, hq⟩
      · exact (hno hT).elim
      · have : u = v := by rw [Bool.eq_iff_iff, hu, hv]
        rw [this]
        exact ⟨rfl, hq⟩
  · refine ⟨0, fun _ => 0, 2, 0, fun _ => 0, 2, false, 2, fun W hv => ?_, fun W hv => ?_, fun W hv => ?_, fun W hv => ?_, fun W hw => ?_, fun W hw => ?_, by omega, by omega⟩
    · refine (meet_ok n m c2 d2 X Y z y W (hx.below hv) (hy.below hv) (by omega)).mono ?_
      rintro e w' (⟨_, rfl, rfl⟩ | ⟨h, _⟩)
      · exact ⟨_, _, rfl, argI_zero _ _ (by decide) _, Below.refl _ _⟩
      · exact (hT h).elim
    · refine (rmeet_ok n m c d A B z y W (ha.below hv) (hb.below hv) hn hm).mono ?_
      rintro e w' ⟨⟨_, rfl⟩ | ⟨h, _⟩, hq⟩
      · exact ⟨_, _, rfl, argI_zero _ _ (by decide) _, hq⟩
      · exact (hT h).elim
    · refine (join_ok n m c2 d2 X Y z y W (hx.below hv) (hy.below hv) hX (by omega)).mono ?_
      rintro e w' (⟨_, rfl, rfl⟩ | ⟨h, _⟩)
      · exact ⟨_, _, rfl, argI_zero _ _ (by decide) _, Below.refl _ _⟩
      · exact (hT h).elim
    · refine (rjoin_ok n m c d A B z y W (ha.below hv) (hb.below hv) hn hm).mono ?_
      rintro e w' ⟨⟨_, rfl⟩ | ⟨h, _⟩, hq⟩
      · exact ⟨_, _, rfl, argI_zero _ _ (by decide) _, hq⟩
      · exact (hT h).elim
    · refine (refines_ok n m c2 d2 X Y z y W (hx.below hw) (hy.below hw) (by omega)).mono ?_
      rintro e w' ⟨⟨_, rfl⟩ | ⟨h, _⟩, k, rfl⟩
      · exact ⟨rfl, below_drewN (Below.refl _ _) k⟩
      · exact (hT h).elim
    · refine (rrefines_ok n m c d A B z y W (ha.below hw) (hb.below hw) hn hm).mono ?_
      rintro e w' ⟨⟨_, rfl⟩ | ⟨h, _⟩, hq⟩
      · exact ⟨rfl, hq⟩
      · exact (hT h).elim
theorem below_all {B : Nat} {a b c : World} (h : Below B a b) (hB : B ≤ a.heap.size) (k : Below b.heap.size b c) : Below B a c := below_go h hB k

set_option maxRecDepth 100000 in
set_option maxHeartbeats 4000000 in
theorem meets_walk (n c : Nat) (A : Option Addr) (z : Nat → Int) (m d : Nat) (B : Option Addr) (y : Nat → Int) (w : World) (ha : ArgI .i64 w A n c z) (hA : A = none → n = 0 ∧ c = 0) (hb : ArgI .i64 w B m d y) (hB : B = none → m = 0 ∧ d = 0) :
    Calls Try.prog 8 #[.slice A n c, .slice B m d] w fun e w' => e = .returned (.bool true) ∧ Below w.heap.size w w' := by
  have hn63 := ha.2.1
  have hnc := ha.1
  have hm63 := hb.2.1
  have hmd := hb.1
  by_cases hgn : 40 < n
  · have hgn : (40 : Int) < (n : Int) := by omega
    go_enter Try.func8, Try.ntmps8
    go_wp2_with fail
    go_ret
    exact ⟨rfl, Below.refl _ _⟩
  have hnn : ¬ (40 : Int) < (n : Int) := by omega
  by_cases hgm : 40 < m
  · have hgm : (40 : Int) < (m : Int) := by omega
    go_enter Try.func8, Try.ntmps8
    go_wp2_with fail
    go_ret
    exact ⟨rfl, Below.refl _ _⟩
  have hnm : ¬ (40 : Int) < (m : Int) := by omega
  have x := copied2_ok n c A z w ha hA (by omega)
  go_enter Try.func8, Try.ntmps8
  go_wp2_with fail
  refine x.mono ?_
  rintro e w1 ⟨X, c2, rfl, hx, hX, v⟩
  have ha := ha.below v
  have hb := hb.below v
  have q := v
  have hq := q.size
  clear x v
  have x := copied2_ok m d B y w1 hb hB (by omega)
  go_wp2_with fail
  refine x.mono ?_
  rintro e w2 ⟨Y, d2, rfl, hy, hY, v⟩
  have ha := ha.below v
  have hb := hb.below v
  have hx := hx.below v
  have q := below_end q hq v
  have hq := q.size
  clear x v
  obtain ⟨N, zz, e, M, jj, g, v, k, g25, g26, g27, g28, g29, g30, hN, hM⟩ := meets_both n m c d c2 d2 A B X Y z y w2 ha hb hx hX hy (by omega) (by omega)
  have G26 := Lib.hid g26
  have G27 := Lib.hid g27
  have G28 := Lib.hid g28
  have G29 := Lib.hid g29
  have G30 := Lib.hid g30
  have x := g25 w2 (Below.refl _ _)
  have b2 := Below.refl w2.heap.size w2
  clear g25 g26 g27 g28 g29 g30
  go_wp2_with fail
  refine x.mono ?_
  rintro e w3 ⟨A3, c3, rfl, h3, vv⟩
  have ha := ha.below vv
  have hb := hb.below vv
  have hx := hx.below vv
  have hy := hy.below vv
  have q := below_end q hq vv
  have hq := q.size
  have b2 := below_go b2 (Nat.le_refl _) vv
  clear x vv
  have x := G26.out w3 b2
  go_wp2_with fail
  refine x.mono ?_
  rintro e w4 ⟨A4, c4, rfl, h4, vv⟩
  have ha := ha.below vv
  have hb := hb.below vv
  have hx := hx.below vv
  have hy := hy.below vv
  have h3 := h3.below vv
  have q := below_end q hq vv
  have hq := q.size
  have b2 := below_go b2 (Nat.le_refl _) vv
  clear x vv
  have x := G27.out w4 b2
  go_wp2_with fail
  refine x.mono ?_
  rintro e w5 ⟨A5, c5, rfl, h5, vv⟩
  have ha := ha.below vv
  have hb := hb.below vv
  have hx := hx.below vv
  have hy := hy.below vv
  have h3 := h3.below vv
  have h4 := h4.below vv
  have q := below_end q hq vv
  have hq := q.size
  have b2 := below_go b2 (Nat.le_refl _) vv
  clear x vv
  have x := G28.out w5 b2
  go_wp2_with fail
  refine x.mono ?_
  rintro e w6 ⟨A6, c6, rfl, h6, vv⟩
  have ha := ha.below vv
  have hb := hb.below vv
  have hx := hx.below vv
  have hy := hy.below vv
  have h3 := h3.below vv
  have h4 := h4.below vv
  have h5 := h5.below vv
  have q := below_end q hq vv
  have hq := q.size
  have b2 := below_go b2 (Nat.le_refl _) vv
  clear x vv
  have x := G29.out w6 b2
  go_wp2_with fail
  refine x.mono ?_
  rintro e w7 ⟨rfl, vv⟩
  have ha := ha.below vv
  have hb := hb.below vv
  have hx := hx.below vv
  have hy := hy.below vv
  have h3 := h3.below vv
  have h4 := h4.below vv
  have h5 := h5.below vv
  have h6 := h6.below vv
  have q := below_end q hq vv
  have hq := q.size
  have b2 := below_go b2 (Nat.le_refl _) vv
  clear x vv
  have x := G30.out w7 b2
  go_wp2_with fail
  refine x.mono ?_
  rintro e w8 ⟨rfl, vv⟩
  have ha := ha.below vv
  have hb := hb.below vv
  have hx := hx.below vv
  have hy := hy.below vv
  have h3 := h3.below vv
  have h4 := h4.below vv
  have h5 := h5.below vv
  have h6 := h6.below vv
  have q := below_end q hq vv
  have hq := q.size
  have b2 := below_go b2 (Nat.le_refl _) vv
  clear x vv
  have x := same_yes N c3 c4 A3 A4 zz w8 h3 h4 (by omega)
  go_wp2_with fail
  refine x.mono ?_
  rintro e w9 ⟨rfl, mm, hw⟩
  have vv : Below w8.heap.size w8 w9 := by rw [hw]; exact below_drewN (Below.refl _ _) mm
  clear hw
  have ha := ha.below vv
  have hb := hb.below vv
  have hx := hx.below vv
  have hy := hy.below vv
  have h3 := h3.below vv
  have h4 := h4.below vv
  have h5 := h5.below vv
  have h6 := h6.below vv
  have q := below_end q hq vv
  have hq := q.size
  clear x vv
  have x := same_yes M c5 c6 A5 A6 jj w9 h5 h6 (by omega)
  go_wp2_with fail
  refine x.mono ?_
  rintro e w10 ⟨rfl, mm, hw⟩
  have vv : Below w9.heap.size w9 w10 := by rw [hw]; exact below_drewN (Below.refl _ _) mm
  clear hw
  have ha := ha.below vv
  have hb := hb.below vv
  have hx := hx.below vv
  have hy := hy.below vv
  have h3 := h3.below vv
  have h4 := h4.below vv
  have h5 := h5.below vv
  have h6 := h6.below vv
  have q := below_end q hq vv
  have hq := q.size
  clear x vv
  have x := same_yes n c2 c X A z w10 hx ha (by omega)
  go_wp2_with fail
  refine x.mono ?_
  rintro e w11 ⟨rfl, mm, hw⟩
  have vv : Below w10.heap.size w10 w11 := by rw [hw]; exact below_drewN (Below.refl _ _) mm
  clear hw
  have ha := ha.below vv
  have hb := hb.below vv
  have hx := hx.below vv
  have hy := hy.below vv
  have h3 := h3.below vv
  have h4 := h4.below vv
  have h5 := h5.below vv
  have h6 := h6.below vv
  have q := below_end q hq vv
  have hq := q.size
  clear x vv
  have x := same_yes m d2 d Y B y w11 hy hb (by omega)
  go_wp2_with fail
  refine x.mono ?_
  rintro e w12 ⟨rfl, mm, hw⟩
  have vv : Below w11.heap.size w11 w12 := by rw [hw]; exact below_drewN (Below.refl _ _) mm
  clear hw
  have ha := ha.below vv
  have hb := hb.below vv
  have hx := hx.below vv
  have hy := hy.below vv
  have h3 := h3.below vv
  have h4 := h4.below vv
  have h5 := h5.below vv
  have h6 := h6.below vv
  have q := below_end q hq vv
  have hq := q.size
  clear x vv
  have x := works_ok w12
  go_wp2_with fail
  refine x.mono ?_
  rintro e w20 ⟨rfl, v⟩
  have q := below_end q hq v
  go_wp2_with fail
  go_ret
  exact ⟨rfl, q⟩
end Go.Proofs.Ytipniooflaiikaa
