/-
  The walk of HistoCoarser.
-/
import Derived.Test.YtcmkjbliiggcbaaL14
set_option linter.unusedVariables false
set_option linter.unusedSimpArgs false
namespace Go.Proofs.Ytcmkjbliiggcbaa
open Go.RowKit Go.Shelf

set_option maxRecDepth 100000 in
set_option maxHeartbeats 4000000 in
theorem coarser_walk (n c : Nat) (A : Option Addr) (B : Nat → Int) (m d : Nat) (L : Option Addr) (z : Nat → Nat → Int) (bound : Int) (w : World) (ha : ArgI .i64 w A n c B) (hA : A = none → n = 0 ∧ c = 0) (hL : ArgS ks2 w L m d z) (hbound : 0 ≤ bound ∧ bound ≤ 255) :
    Calls Try.prog 12 #[.slice A n c, .slice L m d, .int .u8 bound] w fun e w' => e = .returned (.bool true) ∧ Below w.heap.size w w' := by
  by_cases hn : 200 < n
  · have hn' : (200 : Int) < (n : Int) := by omega
    go_enter Try.func12, Try.ntmps12
    go_wp2_with (go_at_call 14; refine (works_ok _).mono ?_; rintro e w9 ⟨rfl, hv9⟩)
    go_ret
    exact ⟨rfl, hv9⟩
  by_cases hm : 200 < m
  · have hn' : ¬ (200 : Int) < (n : Int) := by omega
    have hm' : (200 : Int) < (m : Int) := by omega
    go_enter Try.func12, Try.ntmps12
    go_wp2_with (go_at_call 14; refine (works_ok _).mono ?_; rintro e w9 ⟨rfl, hv9⟩)
    go_ret
    exact ⟨rfl, hv9⟩
  have hn' : ¬ (200 : Int) < (n : Int) := by omega
  have hm' : ¬ (200 : Int) < (m : Int) := by omega
  rcases Nat.eq_zero_or_pos n with hn0 | hn0
  · subst hn0
    go_enter Try.func12, Try.ntmps12
    go_wp2_with (go_at_call 14; refine (works_ok _).mono ?_; rintro e w9 ⟨rfl, hv9⟩)
    go_ret
    exact ⟨rfl, hv9⟩
  obtain ⟨r, rfl⟩ : ∃ r, n = r + 1 := ⟨n - 1, by omega⟩
  have hrn : ((r : Int) + 1 == 0) = false := by simp; omega
  have hr0 : ¬ (r : Int) + 1 = 0 := by omega
  have hn2 : ¬ (200 : Int) < (r : Int) + 1 := by omega
  obtain ⟨hb0, hb1⟩ := hbound
  have hB : ∀ j, j < r + 1 → Fits (B j) := fun j hj => wf_i64 (ha.2.2.2 j hj)
  have HB := Lib.hid hB
  clear hB hn'
  go_enter Try.func12, Try.ntmps12
  go_wp2_with fail
  refine (hat_new (r + 1) c A B _ ha hA).mono ?_
  rintro e w1 ⟨⟨p, rfl, H1, hle, hI⟩ | ⟨rfl, hno⟩, hv1⟩
  case inr =>
    go_wp2_with (go_at_call 14; refine (works_ok _).mono ?_; rintro e w9 ⟨rfl, hv9⟩)
    go_ret
    exact ⟨rfl, below_end hv1 hv1.size hv9⟩
  have HI := Lib.hid hI
  obtain ⟨b, hb⟩ : ∃ b : Nat, bound % ((r : Int) + 1) = (b : Int) := Int.eq_ofNat_of_zero_le (Int.emod_nonneg _ (by omega))
  have hbr : b < r + 1 := by
    have := Int.emod_lt_of_pos bound (show 0 < (r : Int) + 1 by omega)
    omega
  have ha1 := ha.below hv1
  have hz1 := hv1.size
  clear ha hI
  go_wp2_with fail
  rw [hb]
  have HBB := Lib.hid hb
  clear hb
  go_loopw [10, 11] (fun vr vi wr => ∃ (i : Nat) (A1 : Option Addr) (d1 : Nat), vi = .int .i64 i ∧ i ≤ r + 1 ∧ vr = .slice A1 (cnt b i) d1 ∧ wr.ownsRow w1.heap.size 2 1 (.slice A1 (cnt b i) d1) (cnt b i) (vals (del B b) (cnt b i)) ∧ Below w1.heap.size w1 wr) (fun _ vi _ => r + 1 - (intOf vi).toNat)
  case atStart => exact ⟨0, none, 0, rfl, Nat.zero_le _, by rw [cnt_in (Nat.zero_le b)], by rw [cnt_in (Nat.zero_le b)]; exact World.ownsRow_nil _ _ _ _, Below.refl _ _⟩
  case round =>
    obtain ⟨i, A1, d1, rfl, hi, rfl, ho, q⟩ := hrel
    have ha2 := ha1.below q
    have hz := q.size
    by_cases hlt : i < r + 1
    · have hin : (i : Int) < (r : Int) + 1 := by omega
      by_cases hib : i = b
      · subst hib
        have HC := Lib.hid (show cnt i (i + 1) = cnt i i by have h1 := cnt_in (b := i) (i := i) (by omega); have h2 := cnt_out (b := i) (i := i + 1) (by omega); omega)
        go_wp2_with fail
        go_roundw
        case rel => exact ⟨i + 1, A1, d1, by simp, by omega, by rw [HC.out], by rw [HC.out]; exact ho, q⟩
        case measure => simp [intOf]; omega
      · have hb1 : ((i : Int) == (b : Int)) = false := by simp; omega
        have hb2 : ((i : Int) != (b : Int)) = true := by simp; omega
        have hb3 : ¬ (i : Int) = (b : Int) := by omega
        have hb4 : ¬ (b : Int) = (i : Int) := by omega
        obtain ⟨k, hk⟩ : ∃ k, cnt b i = k := ⟨_, rfl⟩
        have hkl : k ≤ r := by
          rcases Nat.lt_or_ge b i with h1 | h1
          · have := cnt_out h1; omega
          · have := cnt_in h1; omega
        have hkb : k < b ∨ k + 1 ≤ r := by
          rcases Nat.lt_or_ge b i with h1 | h1
          · have := cnt_out h1; omega
          · have := cnt_in h1; omega
        have hk1 : cnt b (i + 1) = k + 1 := by
          rcases Nat.lt_or_ge b i with h1 | h1
          · have := cnt_out h1; have := cnt_out (b := b) (i := i + 1) (by omega); omega
          · have := cnt_in h1; have := cnt_in (b := b) (i := i + 1) (by omega); omega
        obtain ⟨g, o, rfl, hg, hc⟩ := ha2.2.2.1 (by omega)
        have hcB := ha2.1
        have ci := hc i hlt
        obtain ⟨x, hx⟩ : ∃ x, B i = x := ⟨_, rfl⟩
        rw [hx] at ci
        have hfx : Fits x := by rw [← hx]; exact HB.out i hlt
        have hcat : ∀ j, j < k + 1 → cat (del B b) k (fun _ => x) j = del B b j := fun j hj => by
          unfold cat
          split
          · rfl
          · obtain rfl : j = k := by omega
            show x = _
            rw [← hx]
            unfold del
            rcases Nat.lt_or_ge b i with h1 | h1
            · have := cnt_out h1; rw [if_neg (by omega)]; congr 1; omega
            · have := cnt_in h1; rw [if_pos (by omega)]; congr 1; omega
        have hdel : ∀ j, j < k + 1 → Fits (del B b j) := fun j hj => by
          unfold del; split
          · exact HB.out j (by omega)
          · exact HB.out (j + 1) (by omega)
        rw [hk] at ho
        rw [hk]
        have HK := Lib.hid hk1
        have HC := Lib.hid (And.intro hcat hdel)
        have hoA : (wr.alloc (.cells #[.int .i64 x] 2)).ownsRow w1.heap.size 2 1 (.slice A1 k d1) k (vals (del B b) k) := own_below ho (below_new1 wr _)
        have hxA : ArgI .i64 (wr.alloc (.cells #[.int .i64 x] 2)) (some ⟨wr.heap.size, 0, none⟩) 1 1 (fun _ => x) := argI_one wr x hfx
        have HOB := Lib.hid (own_base ho)
        have qA : Below w1.heap.size w1 (wr.alloc (.cells #[.int .i64 x] 2)) := q.alloc (by omega) _
        have hzA : w1.heap.size ≤ (wr.alloc (.cells #[.int .i64 x] 2)).heap.size := by simp; omega
        clear hk hk1 hx hcat hdel hfx ho hc
        go_wp2_with (at_builtin; refine wpList_append_ints rfl _ _ rfl w1.heap.size (.slice A1 k d1) k (del B b) rfl hoA (some ⟨wr.heap.size, 0, none⟩) 1 1 (fun _ => x) rfl hxA (fun h => by cases h) (by omega) hzA ?_; intro v' w3 hown hgrow; rw [vals_ext HC.out.1] at hown; have hb3 := qA.grown hgrow hzA HOB.out; obtain ⟨A2, d2, rfl, hC2, _, hCg2⟩ := own_arg hown HC.out.2)
        go_roundw
        case rel => exact ⟨i + 1, A2, d2, by simp, by omega, by rw [HK.out], by rw [HK.out]; exact hown, hb3⟩
        case measure => simp [intOf]; omega
    · have hin : ¬ (i : Int) < (r : Int) + 1 := by omega
      have hcr : cnt b i = r := by have := cnt_out (b := b) (i := i) (by omega); omega
      rw [hcr] at ho
      rw [hcr]
      clear hcr
      have hdel : ∀ j, j < r → Fits (del B b j) := fun j hj => by
        unfold del; split
        · exact HB.out j (by omega)
        · exact HB.out (j + 1) (by omega)
      obtain ⟨A0, d0, e0, aB, aN, aG⟩ := own_arg ho hdel
      cases e0
      have H1a := H1.below q
      have q1 := below_end hv1 hz1 q
      have hI2 := HI.out.del b
      have hAr : 0 < r → ∀ g o, A1 = some ⟨g, o, none⟩ → w1.heap.size ≤ g ∧ g < wr.heap.size := fun hr g o e => by
        obtain ⟨g', o', e', hl, _⟩ := aB.2.2.1 hr
        have := aG g o e
        rw [e] at e'; cases e'; exact ⟨this, hl⟩
      have HAR := Lib.hid hAr
      have HA := Lib.hid aB
      clear hAr hdel aG ho hlt hi aB
      have hnew := hat_new r d1 A1 (del B b) wr HA.out aN
      clear aN
      go_wp2_with fail
      refine hnew.mono ?_
      rintro e w4 ⟨⟨pw, rfl, H2, _, _⟩ | ⟨rfl, hno⟩, hv4⟩
      case inr => exact (hno ⟨by omega, hI2⟩).elim
      have H1b := H1a.below hv4
      have q4 := below_end q1 q1.size hv4
      have hz4 := hv4.size
      have HR := Lib.hid (HA.out.below hv4)
      rw [← fold_zero b] at H2
      clear hI2 hnew
      go_wp2_with fail
      obtain ⟨w5, e5⟩ : ∃ w5 : World, w5 = wr := ⟨_, rfl⟩
      subst e5
      go_loopw [14] (fun vk wr => ∃ (k : Nat) (C : Nat → Int) (T : Int), vk = .int .i64 k ∧ k ≤ m ∧ HAt wr w.heap.size w1.heap.size p (r + 1) B C T ∧ HAt wr w5.heap.size w4.heap.size pw r (del B b) (fold C b) T ∧ w4.heap.size ≤ wr.heap.size ∧ Turns (fun x => (w.heap.size ≤ x ∧ x < w1.heap.size) ∨ (w5.heap.size ≤ x ∧ x < w4.heap.size)) w4 wr) (fun vk _ => m - (intOf vk).toNat)
      case atStart => exact ⟨0, _, 0, rfl, Nat.zero_le _, H1b, H2, Nat.le_refl _, Turns.refl _ _⟩
      case round =>
        clear H1 H1a H1b H2
        obtain ⟨k, C, T, rfl, hk, H1, H2, hzk, tk⟩ := hrel
        have qk := below_turns q4 (Nat.le_trans hz1 (Nat.le_trans hz hz4)) tk (fun x hx => by omega)
        by_cases hlt : k < m
        · obtain ⟨g, o, rfl, hg, b0, b1, fx, ft⟩ := steps_at hL hlt
          have hmd := hL.1
          have hkm : (k : Int) < (m : Int) := by omega
          obtain ⟨x, hx⟩ : ∃ x, z k 0 = x := ⟨_, rfl⟩
          obtain ⟨t, ht⟩ : ∃ t, z k 1 = t := ⟨_, rfl⟩
          rw [hx] at b0 fx
          rw [ht] at b1 ft
          have ft1 := ft.2
          clear hx ht
          have d0 := (qk.cell (p := ⟨g, o + k * 2, none⟩) hg).trans b0
          have d1 := (qk.cell (p := ⟨g, o + k * 2 + 1, none⟩) hg).trans b1
          have H1d := H1.below (Below.refl _ wr).drew
          have H2d := H2.below (Below.refl _ wr).drew
          have f0 : wr.drew.cell? ⟨g, o + k * 2, none⟩ = some (.int .i64 x) := d0
          have f1 : wr.drew.cell? ⟨g, o + k * 2 + 1, none⟩ = some (.int .i64 t) := d1
          have x0 := hat_add H1d x t ft1
          have tkd := tk.drew
          obtain ⟨ke, hke⟩ : ∃ ke, addX T t = ke := ⟨_, rfl⟩
          rw [hke] at x0
          go_wp2_with fail
          go_region_held3 (fun w' => w'.cell? ⟨g, o + k * 2, none⟩ = some (.int .i64 x) ∧ w'.cell? ⟨g, o + k * 2 + 1, none⟩ = some (.int .i64 t)) (go_keep)
            (first
              | (go_at_call 20; (with_reducible refine y0.mono ?_); rintro e w7 ⟨rfl, R2, t7⟩; have q7 := below_turns q6 q6.size t7 (fun x hx => by omega); have n0 := (q7.cell (p := ⟨g, o + k * 2, none⟩) hg).trans b0; have n1 := (q7.cell (p := ⟨g, o + k * 2 + 1, none⟩) hg).trans b1)
              | (go_at_call 20; (with_reducible refine x0.mono ?_); rintro e w6 ⟨rfl, R1, t6⟩; have q6 := below_turns qk.drew qk.size t6 (fun x hx => by omega); have m0 := (q6.cell (p := ⟨g, o + k * 2, none⟩) hg).trans b0; have m1 := (q6.cell (p := ⟨g, o + k * 2 + 1, none⟩) hg).trans b1; have H26 := H2d.away t6 (fun x _ _ => by omega); have y0 := hat_add H26 x t ft1; rw [hke] at y0))
          all_goals
            have R17 := R1.away t7 (fun x _ _ => by omega)
            rw [fold_addF HI.out hbr] at R2
            have t8 := (tkd.trans (t6.mono (fun x _ hx => Or.inl hx))).trans (t7.mono (fun x _ hx => Or.inr hx))
            have hz7 : w4.heap.size ≤ w7.heap.size := t8.size
            clear hke
            go_wp2_with fail
            go_roundw
            case rel => exact ⟨k + 1, _, _, by simp, by omega, R17, R2, hz7, t8⟩
            case measure => simp [intOf]; omega
        · have hkm : ¬ (k : Int) < (m : Int) := by omega
          have hrest : ArgI .i64 wr A1 r d1 (del B b) := ArgI.turns HR.out tk (fun hr g o e => by have := HAR.out hr g o e; show ¬ _; omega)
          go_wp2_with fail
          refine (hat_coarse H1 b hbr).mono ?_
          rintro e w6 ⟨pc, rfl, H3, hv6⟩
          have q6 := below_end qk qk.size hv6
          have K1 := H1.below hv6
          have K2 := H2.below hv6
          have hrest := hrest.below hv6
          go_wp2_with fail
          refine (hat_counts H3).mono ?_
          rintro e w7 ⟨E1, c1, rfl, s1, hv7⟩
          have q7 := below_end q6 q6.size hv7
          go_wp2_with fail
          refine (hat_counts (K2.below hv7)).mono ?_
          rintro e w8 ⟨E2, c2, rfl, s2, hv8⟩
          have q8 := below_end q7 q7.size hv8
          go_wp2_with fail
          refine (same_yes (r + 1) c1 c2 E1 E2 _ _ (s1.below hv8) s2 (by omega)).mono ?_
          rintro e w9 ⟨rfl, hv9⟩
          have q9 := below_end q8 q8.size hv9
          have H9 := ((H3.below hv7).below hv8).below hv9
          have K9 := ((K1.below hv7).below hv8).below hv9
          have hrest := ((hrest.below hv7).below hv8).below hv9
          go_wp2_with fail
          refine (hat_bounds H9).mono ?_
          rintro e w10 ⟨E3, c3, rfl, s3, hv10⟩
          have q10 := below_end q9 q9.size hv10
          go_wp2_with fail
          refine (same_yes r c3 d1 E3 A1 _ _ s3 (hrest.below hv10) (by omega)).mono ?_
          rintro e w11 ⟨rfl, hv11⟩
          have q11 := below_end q10 q10.size hv11
          go_wp2_with fail
          refine (hat_total ((H9.below hv10).below hv11)).mono ?_
          rintro e w' ⟨rfl, rfl⟩
          go_wp2_with fail
          refine (hat_total ((K9.below hv10).below hv11)).mono ?_
          rintro e w' ⟨rfl, rfl⟩
          go_wp2_with (go_at_call 14; refine (works_ok _).mono ?_; rintro e w12 ⟨rfl, hv12⟩)
          go_ret
          exact ⟨rfl, below_end q11 q11.size hv12⟩
end Go.Proofs.Ytcmkjbliiggcbaa
