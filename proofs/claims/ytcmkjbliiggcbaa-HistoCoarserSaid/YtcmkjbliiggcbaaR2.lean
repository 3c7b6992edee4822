/-
  The document's histograms: Add, New; whether both agree.
-/
import Derived.Test.YtcmkjbliiggcbaaR1
set_option linter.unusedVariables false
set_option linter.unusedSimpArgs false
namespace Go.Proofs.Ytcmkjbliiggcbaa
open Go.RowKit Go.Shelf
section
variable {w : World} {p n : Nat} {B C : Nat → Int} {T : Int} {A : Option Addr} {cb s cs : Nat}
set_option maxRecDepth 100000 in
theorem radd_neg (h : RHist w p n B C A cb s cs) (x t : Int) (ht : t < 0) :
    Calls Try.prog 25 #[.pointer (some ⟨p, 0, none⟩), .int .i64 x, .int .i64 t] w fun e w' => e = .returned (.int .i64 2) ∧ w = w' := by
  have hv := rvalid_ok h
  go_enter Try.func25, Try.ntmps25
  go_wp2_with (go_at_call 36; refine hv.mono ?_; rintro e w' ⟨rfl, rfl⟩)
  go_ret
  exact ⟨rfl, rfl⟩
set_option maxRecDepth 100000 in
theorem radd_over (h : RHist w p n B C A cb s cs) (hg : Good C n T) (x t : Int) (ht : 0 ≤ t) (ho : 9223372036854775807 < T + t) :
    Calls Try.prog 25 #[.pointer (some ⟨p, 0, none⟩), .int .i64 x, .int .i64 t] w fun e w' => e = .returned (.int .i64 7) ∧ w = w' := by
  have hv := rvalid_ok h
  have htt := rtotal_ok h hg
  have hT0 := hg.t0
  have hT := hg.le
  have hov : 9223372036854775807 - T < t := by omega
  go_enter Try.func25, Try.ntmps25
  go_wp2_with (first
    | (go_at_call 36; refine hv.mono ?_; rintro e w' ⟨rfl, rfl⟩)
    | (go_at_call 37; refine htt.mono ?_; rintro e w' ⟨rfl, rfl⟩))
  go_ret
  exact ⟨rfl, rfl⟩
set_option maxRecDepth 100000 in
set_option maxHeartbeats 2000000 in
theorem radd_ok (h : RHist w p n B C A cb s cs) (hg : Good C n T) (x t : Int) (ht : 0 ≤ t) (hs : T + t ≤ 9223372036854775807) :
    Calls Try.prog 25 #[.pointer (some ⟨p, 0, none⟩), .int .i64 x, .int .i64 t] w fun e w' => e = .returned (.int .i64 0) ∧ RHist w' p n B (addC B C n x t) A cb s cs ∧ Turns (fun k => k = p ∨ k = s) w w' := by
  have hv := rvalid_ok h
  have htt := rtotal_ok h hg
  have hT0 := hg.t0
  have hT := hg.le
  have hle := h.le
  have hcap := h.cap
  have hov : t ≤ 9223372036854775807 - T := by omega
  have hps : p ≠ s := by
    obtain ⟨cs', h1, _⟩ := h.row
    exact Blk.ne_ h.blk h1 (by decide)
  have hhd := h.below (Below.refl _ w).drew
  have hb := rbucket_ok hhd x
  have hql := bk_le B x n
  obtain ⟨q, hq⟩ : ∃ q, bk B x n = q := ⟨_, rfl⟩
  rw [hq] at hql hb
  have hci := hg.at_ (i := q) (by omega)
  have HQ := Lib.hid hq
  obtain ⟨y, hy⟩ : ∃ y, C q = y := ⟨_, rfl⟩
  rw [hy] at hci
  have HY := Lib.hid hy
  have hqn : (q : Int) < (n : Int) + 1 := by omega
  have hyw : IntKind.i64.wrap (y + t) = y + t := wrap_i64 (by omega) (by omega)
  clear hq hy
  go_enter Try.func25, Try.ntmps25
  go_wp2_with (first
    | (go_at_call 36; refine hv.mono ?_; rintro e w' ⟨rfl, rfl⟩)
    | (go_at_call 37; refine htt.mono ?_; rintro e w' ⟨rfl, rfl⟩))
  obtain ⟨c0, c1, c2⟩ := hhd.cells
  have mc := hhd.row.cell (i := q) (by omega)
  rw [HY.out] at mc
  have mz := hhd.row.frozen q
  go_region_law (first
    | (go_simp; go_at_call 26; refine hb.mono ?_; rintro e w2 ⟨rfl, rfl⟩))
  all_goals
    have R : RHist (w.drew.setCell ⟨s, q, none⟩ (.int .i64 (y + t))) p n B (addC B C n x t) A cb s cs := by
      refine ⟨hhd.blk.far (by exact hps) _, (hhd.row.set_ q (y + t)).congr (fun i hi => ?_), ArgI.far hhd.arg (fun hn g o e => (hhd.far hn g o e).1) _, hhd.nil, hhd.far, hhd.cap, hhd.big, hhd.le⟩
      unfold addC
      rw [HQ.out, HY.out]
    have ht3 : Turns (fun k => k = p ∨ k = s) w (w.drew.setCell ⟨s, q, none⟩ (.int .i64 (y + t))) := ((Turns.refl _ w).drew).setCell (p := ⟨s, q, none⟩) (.inr (.inr rfl)) _
    go_wp2_with fail
    go_ret
    exact ⟨rfl, R, ht3⟩
end

/-- what the document's New returns -/
def RNewOk (w : World) (n : Nat) (B : Nat → Int) (e : Ending) (w' : World) : Prop :=
  (∃ p A cb s cs, e = .returned (.tuple #[.pointer (some ⟨p, 0, none⟩), .int .i64 0]) ∧ RHist w' p n B (fun _ => 0) A cb s cs ∧ ((n ≤ 1024 ∧ Inc B n) ∧ ∀ g o, A = some ⟨g, o, none⟩ → w.heap.size ≤ g) ∧ w.heap.size ≤ p ∧ w.heap.size ≤ s ∧ Below w.heap.size w w') ∨
  (e = .returned (.tuple #[.pointer none, .int .i64 2]) ∧ ¬ (n ≤ 1024 ∧ Inc B n) ∧ Below w.heap.size w w')

set_option maxRecDepth 100000 in
set_option maxHeartbeats 2000000 in
theorem rnew_ok (n c : Nat) (A : Option Addr) (B : Nat → Int) (w : World) (ha : ArgI .i64 w A n c B) (hA : A = none → n = 0 ∧ c = 0) :
    Calls Try.prog 23 #[.slice A n c] w fun e w' => RNewOk w n B e w' := by
  have hn63 := ha.2.1
  have hnc := ha.1
  by_cases hbig : 1024 < n
  · have hb1 : (1024 : Int) < (n : Int) := by omega
    go_enter Try.func23, Try.ntmps23
    go_wp2_with fail
    go_ret2
    exact Or.inr ⟨rfl, fun k => by omega, Below.refl _ _⟩
  have hb1 : ¬ (1024 : Int) < (n : Int) := by omega
  go_enter Try.func23, Try.ntmps23
  go_wp2_with fail
  go_loopw [4] (fun vi wr => ∃ j : Nat, vi = .int .i64 ((j : Int) + 1) ∧ (j + 1 ≤ n ∨ j = 0) ∧ Hid (∀ i, i < j → B i < B (i + 1)) ∧ ArgI .i64 wr A n c B ∧ Below w.heap.size w wr) (fun vi _ => n + 1 - (intOf vi).toNat)
  case atStart => exact ⟨0, rfl, Or.inr rfl, Lib.hid (fun i hi => by omega), ha, Below.refl _ _⟩
  case round =>
    clear ha
    obtain ⟨j, rfl, hj, HI, ha, q⟩ := hrel
    by_cases hlt : j + 1 < n
    · have hji : (j : Int) + 1 < (n : Int) := by omega
      obtain ⟨g, o, rfl, hg, hc⟩ := ha.2.2.1 (by omega)
      have c1 := hc (j + 1) hlt
      have c0 := hc j (by omega)
      clear hc
      obtain ⟨x, hx⟩ : ∃ x, B j = x := ⟨_, rfl⟩
      obtain ⟨y, hy⟩ : ∃ y, B (j + 1) = y := ⟨_, rfl⟩
      have HX := Lib.hid (And.intro hx hy)
      rw [hx] at c0
      rw [hy] at c1
      clear hx hy
      by_cases hle : y ≤ x
      · go_wp2_with fail
        go_quiet (fail)
        go_wp2_with fail
        go_ret2
        refine Or.inr ⟨rfl, fun k => ?_, below_drewN q _⟩
        have := k.2 j (j + 1) (by omega) hlt
        rw [HX.out.1, HX.out.2] at this
        omega
      · have hxy : x < y := by omega
        go_wp2_with fail
        go_quiet (fail)
        go_wp2_with fail
        go_roundw
        case rel =>
          refine ⟨j + 1, by simp, Or.inl (by omega), Lib.hid (fun i hi => ?_), ha.below (below_drewN (Below.refl _ _) _), below_drewN q _⟩
          rcases Nat.lt_or_ge i j with h1 | h1
          · exact HI.out i h1
          · obtain rfl : i = j := by omega
            rw [HX.out.1, HX.out.2]; exact hxy
        case measure => simp [intOf]; omega
    · have hji : ¬ (j : Int) + 1 < (n : Int) := by omega
      have HInc := Lib.hid (inc_of (B := B) (n := n) (fun i hi => HI.out i (by omega)))
      have hwn : IntKind.i64.wrap ((n : Int) + 1) = (n : Int) + 1 := wrap_i64 (by omega) (by omega)
      have hmk : ∀ W : World, (Instr.makeSlice 22 (.int .i64 ((n : Int) + 1)) (.int .i64 ((n : Int) + 1))).run Try.prog W = .ok (.slice (some ⟨W.heap.size, 0, none⟩) (n + 1) (n + 1)) (W.alloc (.cells (zerosK .i64 (n + 1)) 2)) := fun W => run_make22 (n + 1) (by omega) W
      have hB : ∀ j, j < n → Fits (B j) := fun j hj => wf_i64 (ha.2.2.2 j hj)
      have HB := Lib.hid hB
      clear hB
      have hr := (RowF.new .i64 wr 2 (n + 1)).alloc (.cells #[.bool true, .slice none 0 0, .slice (some ⟨wr.heap.size, 0, none⟩) (n + 1) (n + 1)] 72)
      have kb := Blk.new2 wr (.cells (zerosK .i64 (n + 1)) 2) 72 #[.bool true, .slice none 0 0, .slice (some ⟨wr.heap.size, 0, none⟩) (n + 1) (n + 1)]
      have b2 := below_new2 wr (.cells (zerosK .i64 (n + 1)) 2) (.cells #[.bool true, .slice none 0 0, .slice (some ⟨wr.heap.size, 0, none⟩) (n + 1) (n + 1)] 72)
      have ha2 := ha.below b2
      have hz0 := q.size
      have q2 := below_end q q.size b2
      have hsz : ((wr.alloc (.cells (zerosK .i64 (n + 1)) 2)).alloc (.cells #[.bool true, .slice none 0 0, .slice (some ⟨wr.heap.size, 0, none⟩) (n + 1) (n + 1)] 72)).heap.size = wr.heap.size + 1 + 1 := by simp
      go_upto_region 9 with fail
      generalize (wr.alloc (.cells (zerosK .i64 (n + 1)) 2)).alloc (.cells #[.bool true, .slice none 0 0, .slice (some ⟨wr.heap.size, 0, none⟩) (n + 1) (n + 1)] 72) = W2 at *
      clear hmk
      have k0 := kb.cell 0
      have k1 := kb.cell 1
      have k2 := kb.cell 2
      simp at k0 k1 k2
      go_wp2_with (at_builtin; refine wpList_append_ints rfl _ _ rfl W2.heap.size (.slice none 0 0) 0 (fun _ => 0) rfl (World.ownsRow_nil _ _ _ _) A n c B rfl ha2 hA (by omega) (Nat.le_refl _) ?_; intro v' w3 hown hgrow; rw [Nat.zero_add, vals_ext (y := B) (fun j hj => by unfold cat; rw [if_neg (by omega)]; rfl)] at hown; have hb3 := (Below.refl W2.heap.size W2).grown hgrow (Nat.le_refl _) (fun k hk => by simp [Value.ownBlock] at hk); obtain ⟨A', cap, rfl, hC, hCn, hCg⟩ := own_arg hown HB.out; have kb3 := kb.below hb3 kb.lt; have m1 := kb3.cell 1; have z1 := kb3.frozen 1; simp at m1)
      have hg : 0 < n → ∀ g o, A' = some ⟨g, o, none⟩ → g < w3.heap.size := fun hn g o e => by
        obtain ⟨g', o', e', hl, _⟩ := hC.2.2.1 hn
        rw [e] at e'; cases e'; exact hl
      have R : RHist (w3.setCell ⟨wr.heap.size + 1, 1, none⟩ (.slice A' n cap)) (wr.heap.size + 1) n B (fun _ => 0) A' cap wr.heap.size (n + 1) :=
        ⟨kb3.set_ 1 _, (hr.below' hb3).far (by simp) _, ArgI.far hC (fun hn g o e => by have := hCg g o e; show g ≠ wr.heap.size + 1; omega) _, hCn, fun hn g o e => by have := hCg g o e; omega, Nat.le_refl _, by omega, by omega⟩
      have qq := (below_end q2 q2.size hb3).setCell (p := ⟨wr.heap.size + 1, 1, none⟩) (by simp; omega) (.slice A' n cap)
      go_ret2
      exact Or.inl ⟨_, A', cap, _, _, rfl, R, ⟨⟨by omega, HInc.out⟩, fun g o e => by have := hCg g o e; omega⟩, by omega, by omega, qq⟩

set_option maxRecDepth 100000 in
set_option maxHeartbeats 2000000 in
theorem agree_ok {w : World} {p n : Nat} {B C : Nat → Int} {T : Int} {A : Option Addr} {cb s cs p' : Nat} {A' : Option Addr} {cb' s' cs' : Nat} (h : Hist w p n B C T A cb s cs) (r : RHist w p' n B C A' cb' s' cs') (hg : Good C n T) (x : Int) :
    Calls Try.prog 24 #[.pointer (some ⟨p, 0, none⟩), .pointer (some ⟨p', 0, none⟩), .int .i64 x] w fun e w' => e = .returned (.bool true) ∧ Below w.heap.size w w' := by
  have hle := h.le
  have HF := Lib.hid hg.fits
  have HG := Lib.hid hg
  go_enter Try.func24, Try.ntmps24
  go_wp2_with fail
  refine (counts_ok h HF.out).mono ?_
  rintro e w1 ⟨D1, d1, rfl, a1, _, hv1⟩
  have q := hv1
  go_wp2_with fail
  refine (rcounts_ok (r.below q) HF.out).mono ?_
  rintro e w2 ⟨D2, d2, rfl, a2, hv2⟩
  have q := below_end q q.size hv2
  go_wp2_with fail
  refine (same_yes (n + 1) d1 d2 D1 D2 C _ (a1.below hv2) a2 (by omega)).mono ?_
  rintro e w3 ⟨rfl, hv3⟩
  have q := below_end q q.size hv3
  go_wp2_with fail
  refine (bounds_ok (h.below q)).mono ?_
  rintro e w4 ⟨D4, d4, rfl, a4, _, hv4⟩
  have q := below_end q q.size hv4
  go_wp2_with fail
  refine (rbounds_ok (r.below q)).mono ?_
  rintro e w5 ⟨D5, d5, rfl, a5, hv5⟩
  have q := below_end q q.size hv5
  go_wp2_with fail
  refine (same_yes n d4 d5 D4 D5 B _ (a4.below hv5) a5 (by omega)).mono ?_
  rintro e w6 ⟨rfl, hv6⟩
  have q := below_end q q.size hv6
  go_wp2_with fail
  refine (total_ok (h.below q)).mono ?_
  rintro e w' ⟨rfl, rfl⟩
  go_wp2_with fail
  refine (rtotal_ok (r.below q) HG.out).mono ?_
  rintro e w' ⟨rfl, rfl⟩
  go_wp2_with fail
  refine (bucket_ok (h.below q) x).mono ?_
  rintro e w7 ⟨rfl, hv7⟩
  have q := below_end q q.size hv7
  go_wp2_with fail
  refine (rbucket_ok (r.below q) x).mono ?_
  rintro e w' ⟨rfl, rfl⟩
  go_wp2_with fail
  go_ret
  exact ⟨rfl, q⟩
set_option maxRecDepth 100000 in
theorem agree_none (x : Int) (w : World) :
    Calls Try.prog 24 #[.pointer none, .pointer none, .int .i64 x] w fun e w' => e = .returned (.bool true) ∧ Below w.heap.size w w' := by
  have hv : ∀ w, Void w none := fun w => Or.inl rfl
  go_enter Try.func24, Try.ntmps24
  go_wp2_with (first
    | (go_at_call 21; refine (void_counts (hv _)).mono ?_; rintro e w' ⟨rfl, rfl⟩)
    | (go_at_call 43; refine (rvoid_counts _).mono ?_; rintro e w' ⟨rfl, rfl⟩; have mark1 := hv)
    | (go_at_call 32; have mk := mark2; refine (same_yes 0 0 0 none none (fun _ => 0) _ (argI_zero _ _ (by decide) _) (argI_zero _ _ (by decide) _) (by decide)).mono ?_; rintro e w2 ⟨rfl, hv2⟩)
    | (go_at_call 32; have mk := mark1; refine (same_yes 0 0 0 none none (fun _ => 0) _ (argI_zero _ _ (by decide) _) (argI_zero _ _ (by decide) _) (by decide)).mono ?_; rintro e w1 ⟨rfl, hv1⟩)
    | (go_at_call 33; refine (void_bounds (hv _)).mono ?_; rintro e w' ⟨rfl, rfl⟩)
    | (go_at_call 44; refine (rvoid_bounds _).mono ?_; rintro e w' ⟨rfl, rfl⟩; have mark2 := hv)
    | (go_at_call 22; refine (void_total (hv _)).mono ?_; rintro e w' ⟨rfl, rfl⟩)
    | (go_at_call 37; refine (rvoid_total _).mono ?_; rintro e w' ⟨rfl, rfl⟩)
    | (go_at_call 19; refine (void_bucket (hv _) x).mono ?_; rintro e w3 ⟨rfl, hv3⟩)
    | (go_at_call 26; refine (rvoid_bucket _ x).mono ?_; rintro e w' ⟨rfl, rfl⟩))
  go_ret
  have q := below_end hv1 hv1.size hv2
  exact ⟨rfl, below_end q q.size hv3⟩
end Go.Proofs.Ytcmkjbliiggcbaa
