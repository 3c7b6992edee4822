/-
  The references: Meet, Refines.
-/
import Derived.Test.YtipniooflaiikaaE1
import Derived.Test.YtipniooflaiikaaA6
set_option linter.unusedVariables false
set_option linter.unusedSimpArgs false
namespace Go.Proofs.Ytipniooflaiikaa
open Go.RowKit Go.Shelf

set_option maxRecDepth 100000 in
set_option maxHeartbeats 4000000 in
theorem rmeet_ok (n m c d : Nat) (A B : Option Addr) (z y : Nat → Int) (w : World) (ha : ArgI .i64 w A n c z) (hb : ArgI .i64 w B m d y) (hn : n ≤ 1000) (hm : m ≤ 1000) :
    Calls Try.prog 26 #[.slice A n c, .slice B m d] w fun e w' => ((¬ Two n m z y ∧ e = .returned (.tuple #[.slice none 0 0, .int .i64 2])) ∨
      (Two n m z y ∧ ∃ A' c', e = .returned (.tuple #[.slice A' n c', .int .i64 0]) ∧ ArgI .i64 w' A' n c' (fun i => (can (eqP z y) i : Int)))) ∧ Below w.heap.size w w' := by
  have x0 := rtwo_ok n m c d A B z y w ha hb hn hm
  have hn63 := ha.2.1
  have hnc := ha.1
  have hmd := hb.1
  go_enter Try.func26, Try.ntmps26
  go_wp2_with fail
  refine x0.mono ?_
  rintro e w0 ⟨⟨rfl, h1⟩ | ⟨rfl, h1⟩, v0⟩
  case inr =>
    have H1 := Lib.hid h1
    clear h1
    go_wp2_with fail
    go_ret2
    exact ⟨Or.inl ⟨H1.out, rfl⟩, v0⟩
  obtain rfl := h1.2.2
  have H1 := Lib.hid h1
  have HEQ := Lib.hid (show Eqv (eqP z y) n from eqv_of (fun j => (z j, y j)) n)
  have HF := Lib.hid (can_fit (eqP z y) (n := n) (by omega))
  clear h1 x0
  go_wp2_with fail
  go_loopw [6, 7, 8] (fun vo vi _ wr => ∃ (i : Nat) (A1 : Option Addr) (d1 : Nat), vo = .slice A1 i d1 ∧ vi = .int .i64 i ∧ i ≤ n ∧ wr.ownsRow w.heap.size 3 1 (.slice A1 i d1) i (vals (fun j => (can (eqP z y) j : Int)) i) ∧ Below w.heap.size w wr) (fun _ vi _ _ => n - (intOf vi).toNat)
  case atStart => exact ⟨0, none, 0, rfl, rfl, Nat.zero_le _, World.ownsRow_nil _ _ _ _, v0⟩
  case round =>
    clear v0
    obtain ⟨i, A1, d1, rfl, rfl, hi, ho, q⟩ := hrel
    have hq := q.size
    by_cases hlt : i < n
    · have ha1 := ha.below q
      have hb1 := hb.below q
      obtain ⟨F, hF⟩ : ∃ F, can (eqP z y) i = F := ⟨_, rfl⟩
      have hFi : F ≤ i := by rw [← hF]; exact can_le _ _
      have HM := Lib.hid (show (∀ f, f < F → ¬ (z f = z i ∧ y f = y i)) ∧ z F = z i ∧ y F = y i from by
        refine ⟨fun f hf => ?_, ?_⟩
        · have h := can_min (e := eqP z y) (i := i) (j := f) (by omega)
          simpa [eqP] using h
        · have h := can_is HEQ.out hlt
          rw [hF] at h
          simpa [eqP] using h)
      have hin : (i : Int) < (n : Int) := by omega
      have HC := Lib.hid (And.intro (cat_one (fun j => (can (eqP z y) j : Int)) i (show ((can (eqP z y) i : Nat) : Int) = (F : Int) by rw [hF])) (fun j (hj : j < i + 1) => HF.out j (by omega)))
      clear hF
      go_wp2_with fail
      obtain ⟨w1, e1⟩ : ∃ w1 : World, w1 = wr := ⟨_, rfl⟩
      subst e1
      go_loopw [8] (fun vf wr => ∃ f : Nat, vf = .int .i64 f ∧ f ≤ F ∧ ∃ m, wr = w1.drewN m) (fun vf _ => n - (intOf vf).toNat)
      case atStart => exact ⟨0, rfl, Nat.zero_le _, 0, rfl⟩
      case round =>
        obtain ⟨f, rfl, hf, m, rfl⟩ := hrel
        obtain ⟨g, o, rfl, hg, hc⟩ := ha1.2.2.1 (by omega)
        obtain ⟨g', o', rfl, hg', hc'⟩ := hb1.2.2.1 (by omega)
        have c1 := hc f (by omega)
        have c2 := hc i (by omega)
        have c3 := hc' f (by omega)
        have c4 := hc' i (by omega)
        have hfn : (f : Int) < (n : Int) := by omega
        obtain ⟨u, hu⟩ : ∃ u, z f = u := ⟨_, rfl⟩
        obtain ⟨v, hv⟩ : ∃ v, z i = v := ⟨_, rfl⟩
        obtain ⟨s, hs⟩ : ∃ s, y f = s := ⟨_, rfl⟩
        obtain ⟨t, ht⟩ : ∃ t, y i = t := ⟨_, rfl⟩
        have HU := Lib.hid (And.intro (And.intro hu hv) (And.intro hs ht))
        rw [hu] at c1
        rw [hv] at c2
        rw [hs] at c3
        rw [ht] at c4
        clear hc hc' hu hv hs ht
        by_cases hlt2 : f < F
        · have hno := HM.out.1 f hlt2
          rw [HU.out.1.1, HU.out.1.2, HU.out.2.1, HU.out.2.2] at hno
          by_cases huv : u = v
          · subst huv
            have hst : (s == t) = false := by simpa using hno
            clear hno
            go_wp2_with fail
            go_quiet (fail)
            go_wp2_with fail
            go_roundw
            case rel => exact ⟨f + 1, by simp, by omega, m + nq, by first | rfl | simp⟩
            case measure => simp [intOf]; omega
          · have hne : (u == v) = false := by simpa using huv
            clear hno
            go_wp2_with fail
            go_quiet (fail)
            go_wp2_with fail
            go_roundw
            case rel => exact ⟨f + 1, by simp, by omega, m + nq, by first | rfl | simp⟩
            case measure => simp [intOf]; omega
        · obtain rfl : f = F := by omega
          have huv : u = v := by rw [← HU.out.1.1, ← HU.out.1.2]; exact HM.out.2.1
          have hst : s = t := by rw [← HU.out.2.1, ← HU.out.2.2]; exact HM.out.2.2
          subst huv hst
          go_wp2_with fail
          go_quiet (fail)
          generalize hn1 : m + nq = n1
          have ho1 := own_below ho (below_drewN (Below.refl _ _) n1)
          have q1 := below_drewN q n1
          have hq1 := q1.size
          rw [World.drewN_drewN, hn1]
          generalize w1.drewN n1 = w2 at *
          have hfx : Fits (f : Int) := ⟨by omega, by omega⟩
          have hoA : (w2.alloc (.cells #[.int .i64 (f : Int)] 3)).ownsRow w.heap.size 3 1 (.slice A1 i d1) i (vals (fun j => (can (eqP z y) j : Int)) i) := own_below ho1 (below_new1 w2 _)
          have hxA : ArgI .i64 (w2.alloc (.cells #[.int .i64 (f : Int)] 3)) (some ⟨w2.heap.size, 0, none⟩) 1 1 (fun _ => (f : Int)) := argI_one w2 f hfx
          have HOB := Lib.hid (own_base ho1)
          have qA : Below w.heap.size w (w2.alloc (.cells #[.int .i64 (f : Int)] 3)) := q1.alloc hq1 _
          have hzA : w.heap.size ≤ (w2.alloc (.cells #[.int .i64 (f : Int)] 3)).heap.size := by simp; omega
          clear hfx ho1 ho
          go_wp2_with (at_builtin; refine wpList_append_ints rfl _ _ rfl w.heap.size (.slice A1 i d1) i (fun j => (can (eqP z y) j : Int)) rfl hoA (some ⟨w2.heap.size, 0, none⟩) 1 1 (fun _ => (f : Int)) rfl hxA (fun h => by cases h) (by omega) hzA ?_; intro v' w3 hown hgrow; rw [vals_ext HC.out.1] at hown; have hb3 := qA.grown hgrow hzA HOB.out; obtain ⟨A2, d2, rfl, hC2, _, hCg2⟩ := own_arg hown HC.out.2)
          go_roundw
          case rel => exact ⟨i + 1, A2, d2, rfl, by simp, by omega, hown, hb3⟩
          case measure => simp [intOf]; omega
    · obtain rfl : i = n := by omega
      obtain ⟨A0, d0, e0, aB, aN, aG⟩ := own_arg ho HF.out
      cases e0
      have HB := Lib.hid aB
      clear ho aB aN aG
      go_wp2_with fail
      go_ret2
      exact ⟨Or.inr ⟨H1.out, _, _, rfl, HB.out⟩, q⟩
/-- same number in the one, same number in the other -/
def RefZ (z y : Nat → Int) (n : Nat) : Prop := ∀ i j, j < i → i < n → z i = z j → y i = y j
set_option maxRecDepth 100000 in
set_option maxHeartbeats 4000000 in
theorem rrefines_ok (n m c d : Nat) (A B : Option Addr) (z y : Nat → Int) (w : World) (ha : ArgI .i64 w A n c z) (hb : ArgI .i64 w B m d y) (hn : n ≤ 1000) (hm : m ≤ 1000) :
    Calls Try.prog 30 #[.slice A n c, .slice B m d] w fun e w' => ((¬ Two n m z y ∧ e = .returned (.tuple #[.bool false, .int .i64 2])) ∨
      (Two n m z y ∧ ∃ v, e = .returned (.tuple #[.bool v, .int .i64 0]) ∧ (v = true ↔ RefZ z y n))) ∧ Below w.heap.size w w' := by
  have x0 := rtwo_ok n m c d A B z y w ha hb hn hm
  have hn63 := ha.2.1
  have hnc := ha.1
  have hmd := hb.1
  go_enter Try.func30, Try.ntmps30
  go_wp2_with fail
  refine x0.mono ?_
  rintro e w0 ⟨⟨rfl, h1⟩ | ⟨rfl, h1⟩, v0⟩
  case inr =>
    have H1 := Lib.hid h1
    clear h1
    go_wp2_with fail
    go_ret2
    exact ⟨Or.inl ⟨H1.out, rfl⟩, v0⟩
  obtain rfl := h1.2.2
  have H1 := Lib.hid h1
  clear h1 x0
  go_wp2_with fail
  go_loopw [6, 7] (fun vi _ wr => ∃ i : Nat, vi = .int .i64 i ∧ i ≤ n ∧ Hid (RefZ z y i) ∧ Below w.heap.size w wr) (fun vi _ _ => n - (intOf vi).toNat)
  case atStart => exact ⟨0, rfl, Nat.zero_le _, Lib.hid (fun i j h1 h2 => by omega), v0⟩
  case round =>
    clear v0
    obtain ⟨i, rfl, hi, HR, q⟩ := hrel
    by_cases hlt : i < n
    · have hin : (i : Int) < (n : Int) := by omega
      go_wp2_with fail
      go_loopw [7] (fun vj wr => ∃ j : Nat, vj = .int .i64 j ∧ j ≤ i ∧ Hid (∀ t, t < j → z i = z t → y i = y t) ∧ Below w.heap.size w wr) (fun vj _ => i - (intOf vj).toNat)
      case atStart => exact ⟨0, rfl, Nat.zero_le _, Lib.hid (fun t h => by omega), q⟩
      case round =>
        clear q
        obtain ⟨j, rfl, hj, HJ, q⟩ := hrel
        by_cases hlt2 : j < i
        · have ha1 := ha.below q
          have hb1 := hb.below q
          obtain ⟨g, o, rfl, hg, hc⟩ := ha1.2.2.1 (by omega)
          obtain ⟨g', o', rfl, hg', hc'⟩ := hb1.2.2.1 (by omega)
          have c1 := hc i (by omega)
          have c2 := hc j (by omega)
          have c3 := hc' i (by omega)
          have c4 := hc' j (by omega)
          have hjn : (j : Int) < (n : Int) := by omega
          have hji : (j : Int) < (i : Int) := by omega
          obtain ⟨u, hu⟩ : ∃ u, z i = u := ⟨_, rfl⟩
          obtain ⟨v, hv⟩ : ∃ v, z j = v := ⟨_, rfl⟩
          obtain ⟨s, hs⟩ : ∃ s, y i = s := ⟨_, rfl⟩
          obtain ⟨t, ht⟩ : ∃ t, y j = t := ⟨_, rfl⟩
          have HU := Lib.hid (And.intro (And.intro hu hv) (And.intro hs ht))
          rw [hu] at c1
          rw [hv] at c2
          rw [hs] at c3
          rw [ht] at c4
          clear hc hc' hu hv hs ht ha1 hb1
          by_cases huv : u = v
          · by_cases hst : s = t
            · have HJ2 := Lib.hid (show ∀ t, t < j + 1 → z i = z t → y i = y t from fun x hx hz => by
                rcases Nat.lt_or_ge x j with h | h
                · exact HJ.out x h hz
                · obtain rfl : x = j := by omega
                  rw [HU.out.2.1, HU.out.2.2]; exact hst)
              subst huv hst
              go_wp2_with fail
              go_quiet (fail)
              have q := below_drewN q nq
              go_wp2_with fail
              go_roundw
              case rel => exact ⟨j + 1, by simp, by omega, HJ2, q⟩
              case measure => simp [intOf]; omega
            · have HD := Lib.hid (show ¬ RefZ z y n from fun h => hst (by have := h i j hlt2 hlt (by rw [HU.out.1.1, HU.out.1.2]; exact huv); rw [HU.out.2.1, HU.out.2.2] at this; exact this))
              have hne : (s == t) = false := by simpa using hst
              subst huv
              go_wp2_with fail
              go_quiet (fail)
              have q := below_drewN q nq
              go_wp2_with fail
              go_ret2
              exact ⟨Or.inr ⟨H1.out, false, rfl, ⟨(fun h => by cases h), fun h => absurd h HD.out⟩⟩, q⟩
          · have HJ2 := Lib.hid (show ∀ t, t < j + 1 → z i = z t → y i = y t from fun x hx hz => by
              rcases Nat.lt_or_ge x j with h | h
              · exact HJ.out x h hz
              · obtain rfl : x = j := by omega
                rw [HU.out.1.1, HU.out.1.2] at hz; exact absurd hz huv)
            have hne : (u == v) = false := by simpa using huv
            go_wp2_with fail
            go_quiet (fail)
            have q := below_drewN q nq
            go_wp2_with fail
            go_roundw
            case rel => exact ⟨j + 1, by simp, by omega, HJ2, q⟩
            case measure => simp [intOf]; omega
        · obtain rfl : j = i := by omega
          have hji : ¬ (j : Int) < (j : Int) := by omega
          have HR2 := Lib.hid (show RefZ z y (j + 1) from fun a b h1 h2 h3 => by
            rcases Nat.lt_or_ge a j with h | h
            · exact HR.out a b h1 h h3
            · obtain rfl : a = j := by omega
              exact HJ.out b h1 h3)
          go_wp2_with fail
          go_roundw
          case rel => exact ⟨j + 1, by simp, by omega, HR2, q⟩
          case measure => simp [intOf]; omega
    · obtain rfl : i = n := by omega
      go_wp2_with fail
      go_ret2
      exact ⟨Or.inr ⟨H1.out, true, rfl, ⟨fun _ => HR.out, fun _ => rfl⟩⟩, q⟩
end Go.Proofs.Ytipniooflaiikaa
