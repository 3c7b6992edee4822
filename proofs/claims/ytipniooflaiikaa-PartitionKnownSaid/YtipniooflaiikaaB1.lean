/-
  Lists that grow by append; labels.
-/
import Derived.Test.YtipniooflaiikaaA3
set_option linter.unusedVariables false
set_option linter.unusedSimpArgs false
namespace Go.Proofs.Ytipniooflaiikaa
open Go.RowKit Go.Shelf

/-- a row of one new number -/
theorem argI_one (w : World) (x : Int) (hx : Fits x) : ArgI .i64 (w.alloc (.cells #[.int .i64 x] 3)) (some ⟨w.heap.size, 0, none⟩) 1 1 (fun _ => x) :=
  argI_row (Blk.new w 3 #[.int .i64 x]) (by decide) (fun i hi => by obtain rfl : i = 0 := by omega
                                                                    rfl) (fun i hi => hx)
theorem own_below {w w' : World} {base n : Nat} {v : Value} {z : Nat → Int} (h : w.ownsRow base 3 1 v n (vals z n)) (hb : Below w.heap.size w w') : w'.ownsRow base 3 1 v n (vals z n) := by
  refine ⟨h.1, h.2.imp id ?_⟩
  rintro ⟨g, cap, cur, hv, hg, hh, r⟩
  exact ⟨g, cap, cur, hv, hg, (hb.block g (Blk.lt (w := w) (t := 3) (cs := cur) hh)).trans hh, r⟩
theorem own_base {w : World} {base n : Nat} {v : Value} {z : Nat → Int} (h : w.ownsRow base 3 1 v n (vals z n)) : ∀ k, v.ownBlock = some k → base ≤ k := by
  intro k hk
  rcases h.2 with ⟨h0, _⟩ | ⟨g, cap, cur, hv, hg, _⟩
  · rw [h0] at hk; cases hk
  · rw [hv] at hk; cases hk; exact hg
/-- one number more -/
theorem cat_one (z : Nat → Int) (k : Nat) {x : Int} (hx : z k = x) : ∀ j, j < k + 1 → cat z k (fun _ => x) j = z j := fun j hj => by
  unfold cat
  split
  · rfl
  · obtain rfl : j = k := by omega
    exact hx.symm
set_option maxRecDepth 100000 in
set_option maxHeartbeats 1000000 in
theorem labels_ok (n m c d : Nat) (A B : Option Addr) (z y : Nat → Int) (w : World) (ha : ArgI .u8 w A n c z) (hb : ArgI .u8 w B m d y) (hn : n ≤ 1000) :
    Calls Try.prog 24 #[.slice A n c, .slice B m d] w fun e w' => ∃ s, e = .returned (.slice (some ⟨s, 0, none⟩) (min n m) (min n m)) ∧ RowF .i64 w' s 3 (min n m) (fun i => (can (eqZ z) i : Int)) ∧ w.heap.size ≤ s ∧ Below w.heap.size w w' := by
  have hnc := ha.1
  have hmd := hb.1
  have hm63 := hb.2.1
  have hz : ∀ j, j < n → Fits (z j) := fun j hj => by have := wf_u8 (ha.2.2.2 j hj); exact ⟨by omega, by omega⟩
  have hz8 : ∀ j, j < n → 0 ≤ z j ∧ z j ≤ 255 := fun j hj => wf_u8 (ha.2.2.2 j hj)
  have HZ := Lib.hid (And.intro hz hz8)
  clear hz hz8
  go_enter Try.func24, Try.ntmps24
  go_wp2_with fail
  go_loopw [5, 6] (fun vo vi wr => ∃ (i : Nat) (A1 : Option Addr) (d1 : Nat), vo = .slice A1 i d1 ∧ vi = .int .i64 i ∧ i ≤ min n m ∧ wr.ownsRow w.heap.size 3 1 (.slice A1 i d1) i (vals z i) ∧ Below w.heap.size w wr) (fun _ vi _ => n - (intOf vi).toNat)
  case atStart => exact ⟨0, none, 0, rfl, rfl, Nat.zero_le _, World.ownsRow_nil _ _ _ _, Below.refl _ _⟩
  case round =>
    obtain ⟨i, A1, d1, rfl, rfl, hi, ho, q⟩ := hrel
    have hq := q.size
    by_cases hlt : i < min n m
    · have ha1 := ha.below q
      obtain ⟨g, o, rfl, hg, hc⟩ := ha1.2.2.1 (by omega)
      have ci := hc i (by omega)
      have hin : (i : Int) < (n : Int) := by omega
      have him : (i : Int) < (m : Int) := by omega
      have hx8 := HZ.out.2 i (by omega)
      have hfx := HZ.out.1 i (by omega)
      have HC := Lib.hid (And.intro (cat_one z i rfl) (fun j (hj : j < i + 1) => HZ.out.1 j (by omega)))
      obtain ⟨x, hx⟩ : ∃ x, z i = x := ⟨_, rfl⟩
      rw [hx] at ci hfx hx8 HC
      have hw : IntKind.i64.wrap x = x := by rw [IntKind.wrap_i64]; omega
      have hoA : (wr.alloc (.cells #[.int .i64 x] 3)).ownsRow w.heap.size 3 1 (.slice A1 i d1) i (vals z i) := own_below ho (below_new1 wr _)
      have hxA : ArgI .i64 (wr.alloc (.cells #[.int .i64 x] 3)) (some ⟨wr.heap.size, 0, none⟩) 1 1 (fun _ => x) := argI_one wr x hfx
      have HOB := Lib.hid (own_base ho)
      have qA : Below w.heap.size w (wr.alloc (.cells #[.int .i64 x] 3)) := q.alloc hq _
      have hzA : w.heap.size ≤ (wr.alloc (.cells #[.int .i64 x] 3)).heap.size := by simp; omega
      clear hc hx hfx ho ha1
      go_wp2_with (at_builtin; refine wpList_append_ints rfl _ _ rfl w.heap.size (.slice A1 i d1) i z rfl hoA (some ⟨wr.heap.size, 0, none⟩) 1 1 (fun _ => x) rfl hxA (fun h => by cases h) (by omega) hzA ?_; intro v' w3 hown hgrow; rw [vals_ext HC.out.1] at hown; have hb3 := qA.grown hgrow hzA HOB.out; obtain ⟨A2, d2, rfl, hC2, _, hCg2⟩ := own_arg hown HC.out.2)
      go_roundw
      case rel => exact ⟨i + 1, A2, d2, rfl, by simp, by omega, hown, hb3⟩
      case measure => simp [intOf]; omega
    · have hir : i = min n m := by omega
      have hrn : i ≤ n := by omega
      have HIR := Lib.hid hir
      obtain ⟨A0, d0, e0, aB, aN, aG⟩ := own_arg ho (fun j hj => HZ.out.1 j (by omega))
      cases e0
      have x0 := canon_ok i d1 A1 z wr aB (by omega)
      clear ho aN aG
      by_cases hin : i < n
      · have him : ¬ (i : Int) < (m : Int) := by omega
        have hin : (i : Int) < (n : Int) := by omega
        clear hlt hir
        go_wp2_with fail
        refine x0.mono ?_
        rintro e w1 ⟨s, rfl, hrow, hs, hv⟩
        go_wp2_with fail
        go_ret
        rw [← HIR.out]
        exact ⟨s, rfl, hrow, by omega, below_end q hq hv⟩
      · have hin : ¬ (i : Int) < (n : Int) := by omega
        clear hlt hir
        go_wp2_with fail
        refine x0.mono ?_
        rintro e w1 ⟨s, rfl, hrow, hs, hv⟩
        go_wp2_with fail
        go_ret
        rw [← HIR.out]
        exact ⟨s, rfl, hrow, by omega, below_end q hq hv⟩
end Go.Proofs.Ytipniooflaiikaa
