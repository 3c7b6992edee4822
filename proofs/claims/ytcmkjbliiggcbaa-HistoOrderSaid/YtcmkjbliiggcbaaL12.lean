/-
  The walk of HistoOrder.
-/
import Derived.Test.YtcmkjbliiggcbaaL11
import Derived.Test.YtcmkjbliiggcbaaL9
import Derived.Deep.DeepCutAuto
set_option linter.unusedVariables false
set_option linter.unusedSimpArgs false
namespace Go.Proofs.Ytcmkjbliiggcbaa
open Go.RowKit Go.Shelf

theorem hin_merge {w : World} {lo hi p lo' hi' p' n : Nat} {B C C' : Nat → Int} {M M' : Int} (h : HIn w lo hi p n B C M) (k : HIn w lo' hi' p' n B C' M') (hd : hi ≤ lo' ∨ hi' ≤ lo) (hM : M + M' ≤ 9223372036854775807) :
    Calls Try.prog 27 #[.pointer (some ⟨p, 0, none⟩), .pointer (some ⟨p', 0, none⟩)] w fun e w' => e = .returned (.int .i64 0) ∧ HIn w' lo hi p n B (addR C C' (n + 1)) (M + M') ∧ Turns (fun k => lo ≤ k ∧ k < hi) w w' := by
  obtain ⟨T, A, cb, s, cs, h1, h2, h3, a1, a2, a3, a4, a5⟩ := h
  obtain ⟨T', A', cb', s', cs', k1, k2, k3, b1, b2, b3, b4, b5⟩ := k
  refine (merge_ok h1 k1 ⟨rfl, fun _ _ => rfl⟩ h2 k2 (by omega) (by omega)).mono ?_
  rintro e w' ⟨rfl, r1, r2⟩
  exact ⟨rfl, ⟨_, A, cb, s, cs, r1, h2.addR k2 (by omega), by omega, a1, a2, a3, a4, a5⟩, r2.mono (fun k _ hk => by rcases hk with rfl | rfl; exact ⟨a1, a3⟩; exact ⟨a2, a4⟩)⟩

theorem ArgI.congr {k : IntKind} {w : World} {A : Option Addr} {n c : Nat} {z y : Nat → Int} (h : ArgI k w A n c z) (e : ∀ i, i < n → z i = y i) : ArgI k w A n c y := by
  obtain ⟨h1, h2, h3, h4⟩ := h
  refine ⟨h1, h2, fun hn => ?_, fun i hi => by rw [← e i hi]; exact h4 i hi⟩
  obtain ⟨g, o, e', hg, hc⟩ := h3 hn
  exact ⟨g, o, e', hg, fun i hi => by rw [← e i hi]; exact hc i hi⟩
/-- the four histograms -/
structure Four (w : World) (a b c d h0 h1 h2 h3 h4 n : Nat) (B Ca Cb Cc Cd : Nat → Int) (M : Int) : Prop where
  ha : HIn w h0 h1 a n B Ca M
  hb : HIn w h1 h2 b n B Cb M
  hc : HIn w h2 h3 c n B Cc M
  hd : HIn w h3 h4 d n B Cd M
  o1 : h0 ≤ h1
  o2 : h1 ≤ h2
  o3 : h2 ≤ h3
  o4 : h3 ≤ h4

theorem Four.below {w w' : World} {a b c d h0 h1 h2 h3 h4 n : Nat} {B Ca Cb Cc Cd : Nat → Int} {M : Int} (h : Four w a b c d h0 h1 h2 h3 h4 n B Ca Cb Cc Cd M) (hb : Below w.heap.size w w') : Four w' a b c d h0 h1 h2 h3 h4 n B Ca Cb Cc Cd M :=
  ⟨h.ha.below hb, h.hb.below hb, h.hc.below hb, h.hd.below hb, h.o1, h.o2, h.o3, h.o4⟩
section
variable {w w' : World} {a b c d h0 h1 h2 h3 h4 n : Nat} {B Ca Cb Cc Cd C' : Nat → Int} {M M' : Int}
theorem Four.setA (h : Four w a b c d h0 h1 h2 h3 h4 n B Ca Cb Cc Cd M) (k : HIn w' h0 h1 a n B C' M') (hM : M ≤ M') (ht : Turns (fun k => h0 ≤ k ∧ k < h1) w w') : Four w' a b c d h0 h1 h2 h3 h4 n B C' Cb Cc Cd M' := by
  have o1 := h.o1; have o2 := h.o2; have o3 := h.o3; have o4 := h.o4
  exact ⟨k, (h.hb.away ht (fun k _ _ => by omega)).more hM, (h.hc.away ht (fun k _ _ => by omega)).more hM, (h.hd.away ht (fun k _ _ => by omega)).more hM, o1, o2, o3, o4⟩
theorem Four.setB (h : Four w a b c d h0 h1 h2 h3 h4 n B Ca Cb Cc Cd M) (k : HIn w' h1 h2 b n B C' M') (hM : M ≤ M') (ht : Turns (fun k => h1 ≤ k ∧ k < h2) w w') : Four w' a b c d h0 h1 h2 h3 h4 n B Ca C' Cc Cd M' := by
  have o1 := h.o1; have o2 := h.o2; have o3 := h.o3; have o4 := h.o4
  exact ⟨(h.ha.away ht (fun k _ _ => by omega)).more hM, k, (h.hc.away ht (fun k _ _ => by omega)).more hM, (h.hd.away ht (fun k _ _ => by omega)).more hM, o1, o2, o3, o4⟩
theorem Four.setC (h : Four w a b c d h0 h1 h2 h3 h4 n B Ca Cb Cc Cd M) (k : HIn w' h2 h3 c n B C' M') (hM : M ≤ M') (ht : Turns (fun k => h2 ≤ k ∧ k < h3) w w') : Four w' a b c d h0 h1 h2 h3 h4 n B Ca Cb C' Cd M' := by
  have o1 := h.o1; have o2 := h.o2; have o3 := h.o3; have o4 := h.o4
  exact ⟨(h.ha.away ht (fun k _ _ => by omega)).more hM, (h.hb.away ht (fun k _ _ => by omega)).more hM, k, (h.hd.away ht (fun k _ _ => by omega)).more hM, o1, o2, o3, o4⟩
theorem Four.setD (h : Four w a b c d h0 h1 h2 h3 h4 n B Ca Cb Cc Cd M) (k : HIn w' h3 h4 d n B C' M') (hM : M ≤ M') (ht : Turns (fun k => h3 ≤ k ∧ k < h4) w w') : Four w' a b c d h0 h1 h2 h3 h4 n B Ca Cb Cc C' M' := by
  have o1 := h.o1; have o2 := h.o2; have o3 := h.o3; have o4 := h.o4
  exact ⟨(h.ha.away ht (fun k _ _ => by omega)).more hM, (h.hb.away ht (fun k _ _ => by omega)).more hM, (h.hc.away ht (fun k _ _ => by omega)).more hM, k, o1, o2, o3, o4⟩
theorem Four.more (h : Four w a b c d h0 h1 h2 h3 h4 n B Ca Cb Cc Cd M) (hM : M ≤ M') : Four w a b c d h0 h1 h2 h3 h4 n B Ca Cb Cc Cd M' :=
  ⟨h.ha.more hM, h.hb.more hM, h.hc.more hM, h.hd.more hM, h.o1, h.o2, h.o3, h.o4⟩
end

set_option maxRecDepth 100000 in
set_option maxHeartbeats 4000000 in
theorem order_walk (n c : Nat) (A : Option Addr) (B : Nat → Int) (m d : Nat) (L : Option Addr) (z : Nat → Nat → Int) (cut : Int) (w : World) (ha : ArgI .i64 w A n c B) (hA : A = none → n = 0 ∧ c = 0) (hL : ArgS ks2 w L m d z) (hcut : 0 ≤ cut ∧ cut ≤ 255) :
    Calls Try.prog 11 #[.slice A n c, .slice L m d, .int .u8 cut] w fun e w' => e = .returned (.bool true) ∧ Below w.heap.size w w' := by
  by_cases hn : 200 < n
  · have hn' : (200 : Int) < (n : Int) := by omega
    go_enter Try.func11, Try.ntmps11
    go_wp2_with (go_at_call 14; refine (works_ok _).mono ?_; rintro e w9 ⟨rfl, hv9⟩)
    go_ret
    exact ⟨rfl, hv9⟩
  by_cases hm : 200 < m
  · have hn' : ¬ (200 : Int) < (n : Int) := by omega
    have hm' : (200 : Int) < (m : Int) := by omega
    go_enter Try.func11, Try.ntmps11
    go_wp2_with (go_at_call 14; refine (works_ok _).mono ?_; rintro e w9 ⟨rfl, hv9⟩)
    go_ret
    exact ⟨rfl, hv9⟩
  have hn' : ¬ (200 : Int) < (n : Int) := by omega
  have hm' : ¬ (200 : Int) < (m : Int) := by omega
  go_enter Try.func11, Try.ntmps11
  go_wp2_with fail
  refine (hin_new n c A B _ ha hA).mono ?_
  rintro e w1 ⟨⟨pa, rfl, H1, _⟩ | ⟨rfl, hno⟩, hv1⟩
  case inr =>
    go_wp2_with (go_at_call 14; refine (works_ok _).mono ?_; rintro e w9 ⟨rfl, hv9⟩)
    go_ret
    exact ⟨rfl, below_end hv1 hv1.size hv9⟩
  go_wp2_with fail
  refine (hin_copy H1).mono ?_
  rintro e w2 ⟨pb, rfl, H2, hv2⟩
  have H1 := H1.below hv2
  have q := below_end hv1 hv1.size hv2
  go_wp2_with fail
  refine (hin_copy H1).mono ?_
  rintro e w3 ⟨pc, rfl, H3, hv3⟩
  have H1 := H1.below hv3
  have H2 := H2.below hv3
  have q := below_end q q.size hv3
  go_wp2_with fail
  refine (hin_copy H1).mono ?_
  rintro e w4 ⟨pd, rfl, H4, hv4⟩
  have H1 := H1.below hv4
  have H2 := H2.below hv4
  have H3 := H3.below hv4
  have q := below_end q q.size hv4
  have z1 := hv1.size
  have z2 := hv2.size
  have z3 := hv3.size
  have z4 := hv4.size
  have HF : Four w4 pa pb pc pd w.heap.size w1.heap.size w2.heap.size w3.heap.size w4.heap.size n B (fun _ => 0) (fun _ => 0) (fun _ => 0) (fun _ => 0) 0 := ⟨H1, H2, H3, H4, z1, z2, z3, z4⟩
  obtain ⟨tt, htt⟩ : ∃ tt : Nat → Int, tt = fun i => min (z i 1) 1099511627776 := ⟨_, rfl⟩
  obtain ⟨xx, hxx⟩ : ∃ xx : Nat → Int, xx = fun i => z i 0 := ⟨_, rfl⟩
  obtain ⟨fa, hfa⟩ : ∃ f : Nat → Nat → Int, f = dl B n xx tt := ⟨_, rfl⟩
  obtain ⟨fb, hfb⟩ : ∃ f : Nat → Nat → Int, f = fun i => dl B n xx tt (m - 1 - i) := ⟨_, rfl⟩
  obtain ⟨fc, hfc⟩ : ∃ f : Nat → Nat → Int, f = fun (i : Nat) => if (i : Int) < cut then dl B n xx tt i else fun _ => 0 := ⟨_, rfl⟩
  obtain ⟨fd, hfd⟩ : ∃ f : Nat → Nat → Int, f = fun (i : Nat) => if (i : Int) < cut then fun _ => 0 else dl B n xx tt i := ⟨_, rfl⟩
  have HX := Lib.hid (And.intro htt (And.intro hxx (And.intro hfa (And.intro hfb (And.intro hfc hfd)))))
  obtain ⟨hcut0, hcut1⟩ := hcut
  clear htt hxx hfa hfb hfc hfd H1 H2 H3 H4 ha hn hm
  go_wp2_with fail
  go_loopw [12, 13, 14] (fun vk _ _ wr => ∃ k : Nat, vk = .int .i64 k ∧ k ≤ m ∧ Four wr pa pb pc pd w.heap.size w1.heap.size w2.heap.size w3.heap.size w4.heap.size n B (acc fa k) (acc fb k) (acc fc k) (acc fd k) (k * 3298534883328) ∧ w4.heap.size ≤ wr.heap.size ∧ Below w.heap.size w wr) (fun vk _ _ _ => m - (intOf vk).toNat)
  case atStart => exact ⟨0, rfl, Nat.zero_le _, HF.more (by omega), Nat.le_refl _, q⟩
  case round =>
    clear HF q
    obtain ⟨k, rfl, hk, HF, hzr, q⟩ := hrel
    by_cases hlt : k < m
    · obtain ⟨kk, hkk⟩ : ∃ kk : Nat, k + 1 + kk = m := ⟨m - (k + 1), by omega⟩
      obtain ⟨g, o, rfl, hg, b0, b1, fx, ft⟩ := steps_at hL hlt
      obtain ⟨g', o', e', hg', b0', b1', fx', ft'⟩ := steps_at hL (show kk < m by omega)
      cases e'
      have hmd := hL.1
      have hkm : (k : Int) < (m : Int) := by omega
      have hkkm : (kk : Int) < (m : Int) := by omega
      have HKK := Lib.hid hkk
      have hki : (m : Int) - 1 - (k : Int) = (kk : Int) := by omega
      obtain ⟨x, hx⟩ : ∃ x, z k 0 = x := ⟨_, rfl⟩
      obtain ⟨t, ht⟩ : ∃ t, z k 1 = t := ⟨_, rfl⟩
      obtain ⟨x', hx'⟩ : ∃ x, z kk 0 = x := ⟨_, rfl⟩
      obtain ⟨t', ht'⟩ : ∃ t, z kk 1 = t := ⟨_, rfl⟩
      rw [hx] at b0 fx
      rw [ht] at b1 ft
      rw [hx'] at b0' fx'
      rw [ht'] at b1' ft'
      have HZ := Lib.hid (And.intro hx (And.intro ht (And.intro hx' ht')))
      have d0 := (q.cell (p := ⟨g, o + k * 2, none⟩) hg).trans b0
      have d1 := (q.cell (p := ⟨g, o + k * 2 + 1, none⟩) hg).trans b1
      have d0' := (q.cell (p := ⟨g, o + kk * 2, none⟩) hg).trans b0'
      have d1' := (q.cell (p := ⟨g, o + kk * 2 + 1, none⟩) hg).trans b1'
      have hgw : g < wr.heap.size := Nat.lt_of_lt_of_le hg q.size
      obtain ⟨u, hu⟩ : ∃ u, min t 1099511627776 = u := ⟨_, rfl⟩
      obtain ⟨u', hu'⟩ : ∃ u, min t' 1099511627776 = u := ⟨_, rfl⟩
      have hul : u ≤ 1099511627776 := by omega
      have hul' : u' ≤ 1099511627776 := by omega
      have HE := Lib.hid (show addD B (acc fa k) n x u = acc fa (k + 1) ∧ addD B (acc fb k) n x' u' = acc fb (k + 1) ∧ ((k : Int) < cut → addD B (acc fc k) n x u = acc fc (k + 1) ∧ acc fd k = acc fd (k + 1)) ∧ (¬ (k : Int) < cut → addD B (acc fd k) n x u = acc fd (k + 1) ∧ acc fc k = acc fc (k + 1)) by
        obtain ⟨ytt, yxx, yfa, yfb, yfc, yfd⟩ := HX.out
        have s1 : xx k = x := by rw [yxx]; exact hx
        have s2 : tt k = u := by rw [ytt]; show min (z k 1) _ = u; rw [ht]; exact hu
        have s3 : xx kk = x' := by rw [yxx]; exact hx'
        have s4 : tt kk = u' := by rw [ytt]; show min (z kk 1) _ = u'; rw [ht']; exact hu'
        rw [← s1, ← s2, ← s3, ← s4]
        refine ⟨acc_dl B n xx tt fa k k (by rw [yfa]), acc_dl B n xx tt fb k kk (by rw [yfb]; show dl B n xx tt (m - 1 - k) = _; rw [show m - 1 - k = kk by omega]), fun hc => ⟨acc_dl B n xx tt fc k k (by rw [yfc]; exact if_pos hc), acc_none fd k (by rw [yfd]; exact if_pos hc)⟩, fun hc => ⟨acc_dl B n xx tt fd k k (by rw [yfd]; exact if_neg hc), acc_none fc k (by rw [yfc]; exact if_neg hc)⟩⟩)
      have kx := (Blk.new wr 40 #[.int .i64 x, .int .i64 u]).alloc (.cells #[.int .i64 x', .int .i64 u'] 40)
      have ky := Blk.new2 wr (.cells #[.int .i64 x, .int .i64 u] 40) 40 #[.int .i64 x', .int .i64 u']
      have bW := below_new2 wr (.cells #[.int .i64 x, .int .i64 u] 40) (.cells #[.int .i64 x', .int .i64 u'] 40)
      have HF := HF.below bW
      have q := below_end q q.size bW
      have hz2 : wr.heap.size ≤ ((wr.alloc (.cells #[.int .i64 x, .int .i64 u] 40)).alloc (.cells #[.int .i64 x', .int .i64 u'] 40)).heap.size := bW.size
      have hMk : (k : Int) * 3298534883328 ≤ 659706976665600 := by omega
      obtain ⟨M, hM⟩ : ∃ M, (k : Int) * 3298534883328 = M := ⟨_, rfl⟩
      rw [hM] at HF hMk
      have HM := Lib.hid hM
      clear hM
      clear hx ht hx' ht' b0 b1 b0' b1' hkk
      go_upto_region 16 with fail
      clear d0 d1 d0' d1' bW
      generalize (wr.alloc (.cells #[.int .i64 x, .int .i64 u] 40)).alloc (.cells #[.int .i64 x', .int .i64 u'] 40) = W2 at *
      have e0 := kx.cell 0
      have e1 := kx.cell 1
      simp at e0 e1
      go_wp2_with fail
      refine (hin_add HF.ha x u 1099511627776 hul (by omega) (by omega)).mono ?_
      rintro e W3 ⟨⟨j1, rfl⟩, R3, t3⟩
      have o1 := HF.o1
      have o2 := HF.o2
      have o3 := HF.o3
      have o4 := HF.o4
      have F3 := HF.setA R3 (by omega) t3
      have q3 := below_turns q (Nat.le_trans (Nat.le_trans z1 (by omega)) hz2) t3 (fun y hy => by omega)
      have kx3 := kx.turns t3 (by omega)
      have ky3 := ky.turns t3 (by omega)
      have hz3 : W2.heap.size ≤ W3.heap.size := t3.size
      clear e0 e1 kx ky q HF R3
      have e0 := ky3.cell 0
      have e1 := ky3.cell 1
      simp at e0 e1
      go_wp2_with fail
      refine (hin_add F3.hb x' u' 1099511627776 hul' (by omega) (by omega)).mono ?_
      rintro e W4 ⟨⟨j2, rfl⟩, R4, t4⟩
      have F4 := F3.setB R4 (by omega) t4
      have q4 := below_turns q3 (by omega) t4 (fun y hy => by omega)
      have kx4 := kx3.turns t4 (by omega)
      have hz4 : W3.heap.size ≤ W4.heap.size := t4.size
      clear e0 e1 kx3 ky3 q3 F3 R4
      have e0 := kx4.cell 0
      have e1 := kx4.cell 1
      simp at e0 e1
      by_cases hc : (k : Int) < cut
      · go_wp2_with fail
        refine (hin_add F4.hc x u 1099511627776 hul (by omega) (by omega)).mono ?_
        rintro e W5 ⟨⟨j3, rfl⟩, R5, t5⟩
        have F5 := F4.setC R5 (by omega) t5
        have q5 := below_turns q4 (by omega) t5 (fun y hy => by omega)
        have hz5 : W4.heap.size ≤ W5.heap.size := t5.size
        rw [HE.out.1, HE.out.2.1, (HE.out.2.2.1 hc).1, (HE.out.2.2.1 hc).2] at F5
        have F6 := F5.more (M' := (↑(k + 1) : Int) * 3298534883328) (by have := HM.out; omega)
        clear F4 F5 R5 e0 e1 kx4 q4
        go_wp2_with fail
        go_roundw
        case rel => exact ⟨k + 1, by simp, by omega, F6, by omega, q5⟩
        case measure => simp [intOf]; omega
      · have hc2 : cut ≤ (k : Int) := by omega
        have hcd : decide ((k : Int) < cut) = false := by simp; omega
        have HC := Lib.hid hc
        clear hc
        go_wp2_with fail
        refine (hin_add F4.hd x u 1099511627776 hul (by omega) (by omega)).mono ?_
        rintro e W5 ⟨⟨j3, rfl⟩, R5, t5⟩
        have F5 := F4.setD R5 (by omega) t5
        have q5 := below_turns q4 (by omega) t5 (fun y hy => by omega)
        have hz5 : W4.heap.size ≤ W5.heap.size := t5.size
        rw [HE.out.1, HE.out.2.1, (HE.out.2.2.2 HC.out).1, (HE.out.2.2.2 HC.out).2] at F5
        have F6 := F5.more (M' := (↑(k + 1) : Int) * 3298534883328) (by have := HM.out; omega)
        clear F4 F5 R5 e0 e1 kx4 q4
        go_wp2_with fail
        go_roundw
        case rel => exact ⟨k + 1, by simp, by omega, F6, by omega, q5⟩
        case measure => simp [intOf]; omega
    · obtain rfl : k = m := by omega
      have hMk : (k : Int) * 3298534883328 ≤ 659706976665600 := by omega
      have hba : acc fb k = acc fa k := by
        obtain ⟨ytt, yxx, yfa, yfb, yfc, yfd⟩ := HX.out
        funext j
        rw [yfa, yfb]
        exact tot_rev (fun i => dl B n xx tt i j) k
      have hca : ∀ j, j < n + 1 → addR (acc fc k) (acc fd k) (n + 1) j = acc fa k j := fun j hj => by
        obtain ⟨ytt, yxx, yfa, yfb, yfc, yfd⟩ := HX.out
        unfold addR
        rw [if_pos hj, yfa, yfc, yfd]
        show tot _ k + tot _ k = tot _ k
        rw [tot_both]
        refine tot_congr (fun i hi => ?_)
        show (if (i : Int) < cut then dl B n xx tt i else fun _ => 0) j + (if (i : Int) < cut then fun _ => 0 else dl B n xx tt i) j = dl B n xx tt i j
        split
        · show _ + (0 : Int) = _; omega
        · show (0 : Int) + _ = _; omega
      have HCA := Lib.hid hca
      rw [hba] at HF
      clear hba hca
      obtain ⟨M, hM⟩ : ∃ M, (k : Int) * 3298534883328 = M := ⟨_, rfl⟩
      rw [hM] at HF hMk
      clear hM
      have o1 := HF.o1
      have o2 := HF.o2
      have o3 := HF.o3
      have o4 := HF.o4
      obtain ⟨CA, hCA⟩ : ∃ C, acc fa k = C := ⟨_, rfl⟩
      rw [hCA] at HF HCA
      clear hCA
      go_wp2_with fail
      refine (hin_merge HF.hc HF.hd (Or.inl (Nat.le_refl _)) (by omega)).mono ?_
      rintro e W1 ⟨rfl, R1, t1⟩
      have A1 := HF.ha.away t1 (fun y _ _ => by omega)
      have B1 := HF.hb.away t1 (fun y _ _ => by omega)
      have q1 := below_turns q (by omega) t1 (fun y hy => by omega)
      go_wp2_with fail
      refine (hin_counts A1).mono ?_
      rintro e W2 ⟨E1, c1, rfl, s1, hv2⟩
      have q2 := below_end q1 q1.size hv2
      go_wp2_with fail
      refine (hin_counts (B1.below hv2)).mono ?_
      rintro e W3 ⟨E2, c2, rfl, s2, hv3⟩
      have q3 := below_end q2 q2.size hv3
      have n1 := (A1.below hv2).below hv3
      have r1 := (R1.below hv2).below hv3
      go_wp2_with fail
      refine (same_yes (n + 1) c1 c2 E1 E2 CA _ (s1.below hv3) s2 (by omega)).mono ?_
      rintro e W4 ⟨rfl, hv4⟩
      have q4 := below_end q3 q3.size hv4
      go_wp2_with fail
      refine (hin_counts (n1.below hv4)).mono ?_
      rintro e W5 ⟨E3, c3, rfl, s3, hv5⟩
      have q5 := below_end q4 q4.size hv5
      go_wp2_with fail
      refine (hin_counts ((r1.below hv4).below hv5)).mono ?_
      rintro e W6 ⟨E4, c4, rfl, s4, hv6⟩
      have q6 := below_end q5 q5.size hv6
      go_wp2_with fail
      refine (same_yes (n + 1) c3 c4 E3 E4 CA _ (s3.below hv6) (s4.congr HCA.out) (by omega)).mono ?_
      rintro e W7 ⟨rfl, hv7⟩
      have q7 := below_end q6 q6.size hv7
      go_wp2_with (go_at_call 14; refine (works_ok _).mono ?_; rintro e w9 ⟨rfl, hv9⟩)
      go_ret
      exact ⟨rfl, below_end q7 q7.size hv9⟩
end Go.Proofs.Ytcmkjbliiggcbaa
