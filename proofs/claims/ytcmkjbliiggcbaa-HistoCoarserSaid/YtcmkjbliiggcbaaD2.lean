/-
  Histograms: Copy once more, with the bounds as a row; Coarse.
-/
import Derived.Test.YtcmkjbliiggcbaaD1
import Derived.Test.YtcmkjbliiggcbaaA7
set_option linter.unusedVariables false
set_option linter.unusedSimpArgs false
namespace Go.Proofs.Ytcmkjbliiggcbaa
open Go.RowKit Go.Shelf
/-- what Copy returns where there are bounds -/
def CopyOk2 (w : World) (n : Nat) (B C : Nat → Int) (T : Int) (e : Ending) (w' : World) : Prop :=
  ∃ p g cb s cs, e = .returned (.pointer (some ⟨p, 0, none⟩)) ∧ Hist w' p n B C T (some ⟨g, 0, none⟩) cb s cs ∧ RowF .i64 w' g 2 n B ∧ n ≤ cb ∧ cb ≤ 9223372036854775807 ∧ w.heap.size ≤ p ∧ w.heap.size ≤ s ∧ w.heap.size ≤ g ∧ g ≠ s ∧ Below w.heap.size w w'
section
variable {w : World} {p n : Nat} {B C : Nat → Int} {T : Int} {A : Option Addr} {cb s cs : Nat}
set_option maxRecDepth 100000 in
set_option maxHeartbeats 2000000 in
theorem copy_ok2 (h : Hist w p n B C T A cb s cs) (hg : Good C n T) (hn0 : 0 < n) :
    Calls Try.prog 31 #[.pointer (some ⟨p, 0, none⟩)] w fun e w' => CopyOk2 w n B C T e w' := by
  have hv := valid_ok h
  have hle := h.le
  have hF := Lib.hid hg.fits
  have hI := Lib.hid h.inc
  have hB : ∀ j, j < n → Fits (B j) := fun j hj => wf_i64 (h.arg.2.2.2 j hj)
  have HB := Lib.hid hB
  clear hB
  have hD := h.below (Below.refl _ w).drew
  have q0 : Below w.heap.size w w.drew := (Below.refl _ w).drew
  have x0 := clone_ok n cb A B _ hD.arg hD.nil (by omega)
  have y0 := clone_ok (n + 1) cs _ C _ (row_arg hD.row hD.cap hD.big hF.out) (fun h => by cases h) (by omega)
  go_enter Try.func31, Try.ntmps31
  go_wp2_with fail
  refine hv.mono ?_
  rintro e w' ⟨rfl, rfl⟩
  go_wp2_with fail
  obtain ⟨c0, c1, c2⟩ := hD.cells
  go_region_held3 (fun w'' => w''.cell? ⟨p, 0, none⟩ = some (.slice A n cb) ∧ w''.cell? ⟨p, 1, none⟩ = some (.slice (some ⟨s, 0, none⟩) (n + 1) cs) ∧ w''.cell? ⟨p, 2, none⟩ = some (.int .i64 T)) (go_keep)
    (first
      | (go_at_call 39; (with_reducible refine x1.mono ?_); rintro e w2 ⟨v2, rfl, hown2, hv2⟩; have h2 := h1.below hv2; obtain ⟨m0, m1, m2⟩ := h2.cells; obtain ⟨A', cap, rfl, hC, hCn, hCg⟩ := own_arg hown2 HB.out; have hR2 := hR1.below' hv2)
      | (go_at_call 39; (with_reducible refine y1.mono ?_); rintro e w2 ⟨v2, rfl, hown2, hv2⟩; have h2 := h1.below hv2; obtain ⟨m0, m1, m2⟩ := h2.cells; obtain ⟨g', cap', rfl, hgs, hgc, hgb, hR2⟩ := own_row2 hown2 (by omega); have hRB2 := hRB1.below' hv2)
      | (go_at_call 39; (with_reducible refine x0.mono ?_); rintro e w1 ⟨v1, rfl, hown1, hv1⟩; have h1 := hD.below hv1; obtain ⟨m0, m1, m2⟩ := h1.cells; obtain ⟨ga, cap, rfl, hCg, hCc, hCb, hRB1⟩ := own_row2 hown1 hn0; have y1 := clone_ok (n + 1) cs _ C _ (row_arg h1.row h1.cap h1.big hF.out) (fun h => by cases h) (by omega))
      | (go_at_call 39; (with_reducible refine y0.mono ?_); rintro e w1 ⟨v1, rfl, hown1, hv1⟩; have h1 := hD.below hv1; obtain ⟨m0, m1, m2⟩ := h1.cells; obtain ⟨g', cap', rfl, hgs, hgc, hgb, hR1⟩ := own_row2 hown1 (by omega); have x1 := clone_ok n cb A B _ h1.arg h1.nil (by omega)))
  · have hz1 : w.heap.size ≤ w1.heap.size := hv1.size
    have hz2 := hv2.size
    have hgl := hR2.lt
    have hal := hRB1.lt
    have hal2 := hRB2.lt
    have hCg0 : w.heap.size ≤ ga := hCg
    have hgs0 : w1.heap.size ≤ g' := hgs
    have R : Hist (w2.alloc (.cells #[.slice (some ⟨ga, 0, none⟩) n cap, .slice (some ⟨g', 0, none⟩) (n + 1) cap', .int .i64 T] 63)) w2.heap.size n B C T (some ⟨ga, 0, none⟩) cap g' cap' :=
      ⟨Blk.new _ _ _, hR2.alloc _, (row_arg hRB2 hCc hCb HB.out).below (below_new1 _ _), fun e => (by cases e), fun hn g o e => by cases e; omega, hgc, hgb, hI.out, by omega⟩
    have q2 := below_end (below_end q0 q0.size hv1) hz1 hv2
    have qq := q2.alloc (by omega) (.cells #[.slice (some ⟨ga, 0, none⟩) n cap, .slice (some ⟨g', 0, none⟩) (n + 1) cap', .int .i64 T] 63)
    have RB := hRB2.alloc (.cells #[.slice (some ⟨ga, 0, none⟩) n cap, .slice (some ⟨g', 0, none⟩) (n + 1) cap', .int .i64 T] 63)
    go_wp2_with fail
    go_ret
    exact ⟨_, ga, cap, _, _, rfl, R, RB, hCc, hCb, by omega, by omega, hCg0, by omega, qq⟩

theorem coarse_range (h : Hist w p n B C T A cb s cs) (b : Int) (hb : b < 0 ∨ (n : Int) ≤ b) :
    Calls Try.prog 29 #[.pointer (some ⟨p, 0, none⟩), .int .i64 b] w fun e w' => e = .returned (.tuple #[.pointer none, .int .i64 3]) ∧ w = w' := by
  have hv := valid_ok h
  have hle := h.le
  obtain ⟨c0, c1, c2⟩ := h.cells
  rcases hb with hb | hb
  · go_enter Try.func29, Try.ntmps29
    go_wp2_with (go_at_call 34; refine hv.mono ?_; rintro e w' ⟨rfl, rfl⟩)
    go_ret2
    exact ⟨rfl, rfl⟩
  · have hb0 : ¬ b < 0 := by omega
    go_enter Try.func29, Try.ntmps29
    go_wp2_with (go_at_call 34; refine hv.mono ?_; rintro e w' ⟨rfl, rfl⟩)
    go_ret2
    exact ⟨rfl, rfl⟩
end
/-- the counts without bound b: its two buckets are one -/
def fold (C : Nat → Int) (b : Nat) : Nat → Int := del (fun j => if j = b then C b + C (b + 1) else C j) (b + 1)
theorem fold_lt {C : Nat → Int} {b j : Nat} (h : j < b) : fold C b j = C j := by
  unfold fold del; rw [if_pos (by omega)]; exact if_neg (by omega)
theorem fold_eq {C : Nat → Int} {b : Nat} : fold C b b = C b + C (b + 1) := by
  unfold fold del; rw [if_pos (by omega)]; exact if_pos rfl
theorem fold_gt {C : Nat → Int} {b j : Nat} (h : b < j) : fold C b j = C (j + 1) := by
  unfold fold del; rw [if_neg (by omega)]; exact if_neg (by omega)
theorem tot_fold (C : Nat → Int) (b : Nat) : ∀ k, tot (fold C b) k = if k ≤ b then tot C k else tot C (k + 1)
  | 0 => by simp [tot]
  | k + 1 => by
    show tot (fold C b) k + fold C b k = _
    rw [tot_fold C b k]
    rcases Nat.lt_trichotomy k b with h | h | h
    · rw [if_pos (by omega), if_pos (by omega), fold_lt h]; rfl
    · subst h
      rw [if_pos (Nat.le_refl _), if_neg (by omega), fold_eq]
      show tot C k + _ = tot C k + C k + C (k + 1)
      omega
    · rw [if_neg (by omega), if_neg (by omega), fold_gt h]; rfl
theorem Good.fold {C : Nat → Int} {m : Nat} {T : Int} (h : Good C (m + 1) T) {b : Nat} (hb : b < m + 1) : Good (fold C b) m T := by
  refine ⟨fun j => ?_, ?_, h.le⟩
  · rcases Nat.lt_trichotomy j b with k | k | k
    · rw [fold_lt k]; exact h.nn j
    · subst k; rw [fold_eq]; have := h.nn j; have := h.nn (j + 1); omega
    · rw [fold_gt k]; exact h.nn _
  · rw [tot_fold, if_neg (by omega)]; exact h.sum
theorem Inc.del {B : Nat → Int} {m : Nat} (h : Inc B (m + 1)) (b : Nat) : Inc (del B b) m := by
  intro i j hij hj
  unfold Ytcmkjbliiggcbaa.del
  split
  · split
    · exact h i j hij (by omega)
    · exact h i (j + 1) (by omega) (by omega)
  · split
    · omega
    · exact h (i + 1) (j + 1) (by omega) (by omega)
/-- what Coarse returns -/
def CoarseOk (w : World) (m : Nat) (B C : Nat → Int) (T : Int) (b : Nat) (e : Ending) (w' : World) : Prop :=
  ∃ p A cb s cs, e = .returned (.tuple #[.pointer (some ⟨p, 0, none⟩), .int .i64 0]) ∧ Hist w' p m (del B b) (fold C b) T A cb s cs ∧ w.heap.size ≤ p ∧ w.heap.size ≤ s ∧ (∀ g o, A = some ⟨g, o, none⟩ → w.heap.size ≤ g) ∧ Below w.heap.size w w'
section
variable {w : World} {p m : Nat} {B C : Nat → Int} {T : Int} {A : Option Addr} {cb s cs : Nat}
set_option maxRecDepth 100000 in
set_option maxHeartbeats 2000000 in
theorem coarse_ok (h : Hist w p (m + 1) B C T A cb s cs) (hg : Good C (m + 1) T) (b : Nat) (hb : b < m + 1) :
    Calls Try.prog 29 #[.pointer (some ⟨p, 0, none⟩), .int .i64 b] w fun e w' => CoarseOk w m B C T b e w' := by
  have hv := valid_ok h
  have hle := h.le
  have hcp := copy_ok2 h hg (by omega)
  have hB : ∀ j, j < m + 1 → Fits (B j) := fun j hj => wf_i64 (h.arg.2.2.2 j hj)
  have HB := Lib.hid hB
  have HG := Lib.hid hg
  have HI := Lib.hid (h.inc.del b)
  clear hB
  have hb0 : ¬ (b : Int) < 0 := by omega
  have hbn : (b : Int) < (m : Int) + 1 := by omega
  have b0 := hg.at_ (i := b) (by omega)
  have b1 := hg.at_ (i := b + 1) (by omega)
  have bs : C b + C (b + 1) ≤ T := by
    have h1 := tot_in (hg.fold hb) (b + 1) (by omega)
    have h2 := tot_in (hg.fold hb) b (by omega)
    have h3 : tot (fold C b) (b + 1) = tot (fold C b) b + fold C b b := rfl
    rw [fold_eq] at h3
    omega
  have hTl := hg.le
  obtain ⟨c0, c1, c2⟩ := h.cells
  go_enter Try.func29, Try.ntmps29
  go_wp2_with fail
  refine hv.mono ?_
  rintro e w' ⟨rfl, rfl⟩
  go_wp2_with fail
  refine hcp.mono ?_
  rintro e w1 ⟨p', ga, cb', s', cs', rfl, h1, hRB, hcb, hcbx, hp', hs', hga, hgs, hv1⟩
  clear c0 c1 c2 hg h
  obtain ⟨x, hx⟩ : ∃ x, C b = x := ⟨_, rfl⟩
  obtain ⟨y, hy⟩ : ∃ y, C (b + 1) = y := ⟨_, rfl⟩
  rw [hx] at b0 bs
  rw [hy] at b1 bs
  have HXY := Lib.hid (And.intro hx hy)
  have hw : IntKind.i64.wrap (x + y) = x + y := wrap_i64 (by omega) (by omega)
  have hwb : IntKind.i64.wrap ((b : Int) + 1) = (b : Int) + 1 := wrap_i64 (by omega) (by omega)
  have hb1 : (0 : Int) ≤ (b : Int) + 1 := by omega
  have hbt : ((b : Int) + 1).toNat = b + 1 := by omega
  have h1d := h1.below (Below.refl _ w1).drew
  have hRBd := hRB.drew
  have qd := hv1.drew
  have k0 : w1.drew.cell? ⟨s', b, none⟩ = some (.int .i64 x) := by have := h1d.row.cell (i := b) (by omega); rw [hx] at this; exact this
  have k1 : w1.drew.cell? ⟨s', b + 1, none⟩ = some (.int .i64 y) := by have := h1d.row.cell (i := b + 1) (by omega); rw [hy] at this; exact this
  have kz : w1.drew.frozen? ⟨s', b, none⟩ = false := h1d.row.frozen b
  have hcap := h1d.cap
  have hbig := h1d.big
  have hps : p' ≠ s' := by
    obtain ⟨cs', r1, _⟩ := h1d.row
    exact Blk.ne_ h1d.blk r1 (by decide)
  have hpg : p' ≠ ga := by
    obtain ⟨cs', r1, _⟩ := hRBd
    exact Blk.ne_ h1d.blk r1 (by decide)
  clear hx hy
  obtain ⟨c0, c1, c2⟩ := h1d.cells
  go_wp2_with fail
  go_region
  all_goals
    have r2 : RowF .i64 (w1.setCell ⟨s', b, none⟩ (.int .i64 (x + y))).drew s' 2 (m + 1 + 1) (fun j => if j = b then C b + C (b + 1) else C j) := (h1d.row.set_ b (x + y)).congr (fun i hi => by rw [HXY.out.1, HXY.out.2])
    have g2 : RowF .i64 (w1.setCell ⟨s', b, none⟩ (.int .i64 (x + y))).drew ga 2 (m + 1) B := hRBd.far (by exact hgs) _
    have k2 : Blk (w1.setCell ⟨s', b, none⟩ (.int .i64 (x + y))).drew p' 63 #[.slice (some ⟨ga, 0, none⟩) (m + 1) cb', .slice (some ⟨s', 0, none⟩) (m + 1 + 1) cs', .int .i64 T] := h1d.blk.far (p := ⟨s', b, none⟩) (by exact hps) (.int .i64 (x + y))
    have q2 : Below w.heap.size w (w1.setCell ⟨s', b, none⟩ (.int .i64 (x + y))).drew := Below.setCell qd (p := ⟨s', b, none⟩) (by exact hs') _
    generalize (w1.setCell ⟨s', b, none⟩ (.int .i64 (x + y))).drew = W2 at *
    clear c0 c1 c2 k0 k1 kz h1d hRBd
    have c0 := k2.cell 0
    have c1 := k2.cell 1
    simp at c0 c1
    have z0 := k2.frozen 0
    have z1 := k2.frozen 1
    have hd := delete_ok (m + 1 + 1) cs' (b + 1) s' _ W2 r2 (by omega) hcap hbig
    have hb2 : ((b + 1 : Nat) : Int) + 1 = (b : Int) + 2 := by omega
    rw [hb2, show ((b + 1 : Nat) : Int) = (b : Int) + 1 by omega] at hd
    clear hb2
    have hwb2 : IntKind.i64.wrap ((b : Int) + 2) = (b : Int) + 2 := wrap_i64 (by omega) (by omega)
    go_wp2_with fail
    refine hd.mono ?_
    rintro e W3 ⟨rfl, r3, t3⟩
    have k3 := k2.turns t3 hps
    have g3 := g2.turns t3 (fun e => hgs e)
    have q3 := below_turns q2 q2.size t3 (fun k hk => by show ¬ k = s'; omega)
    clear c0 c1 z0 z1
    have c0 := k3.cell 0
    have c1 := k3.cell 1
    simp at c0 c1
    have z0 := k3.frozen 0
    have z1 := k3.frozen 1
    go_upto_region 8 with fail
    have k4 : Blk (W3.setCell ⟨p', 1, none⟩ (.slice (some ⟨s', 0, none⟩) (m + 1) cs')) p' 63 #[.slice (some ⟨ga, 0, none⟩) (m + 1) cb', .slice (some ⟨s', 0, none⟩) (m + 1) cs', .int .i64 T] := k3.set_ 1 _
    have r4 : RowF .i64 (W3.setCell ⟨p', 1, none⟩ (.slice (some ⟨s', 0, none⟩) (m + 1) cs')) s' 2 (m + 1) (fold C b) := r3.far (by exact Ne.symm hps) _
    have g4 : RowF .i64 (W3.setCell ⟨p', 1, none⟩ (.slice (some ⟨s', 0, none⟩) (m + 1) cs')) ga 2 (m + 1) B := g3.far (by exact Ne.symm hpg) _
    have q4 : Below w.heap.size w (W3.setCell ⟨p', 1, none⟩ (.slice (some ⟨s', 0, none⟩) (m + 1) cs')) := q3.setCell (p := ⟨p', 1, none⟩) (by exact hp') _
    generalize W3.setCell ⟨p', 1, none⟩ (.slice (some ⟨s', 0, none⟩) (m + 1) cs') = W4 at *
    clear c0 c1 z0 z1 k2 k3 r2 r3 g2 g3
    have c0 := k4.cell 0
    simp at c0
    have z0 := k4.frozen 0
    go_wp2_with fail
    refine (delete_ok (m + 1) cb' b ga B W4 g4 hb hcb hcbx).mono ?_
    rintro e W5 ⟨rfl, g5, t5⟩
    have k5 := k4.turns t5 hpg
    have r5 := r4.turns t5 (fun e => hgs e.symm)
    have q5 := below_turns q4 q4.size t5 (fun k hk => by show ¬ k = ga; omega)
    clear c0 z0
    have c0 := k5.cell 0
    simp at c0
    have z0 := k5.frozen 0
    have R : Hist (W5.setCell ⟨p', 0, none⟩ (.slice (some ⟨ga, 0, none⟩) m cb')) p' m (del B b) (fold C b) T (some ⟨ga, 0, none⟩) cb' s' cs' :=
      ⟨k5.set_ 0 _, r5.far (by exact Ne.symm hps) _, row_arg (g5.far (by exact Ne.symm hpg) _) (by omega) hcbx (fun j hj => by unfold del; split; exact HB.out j (by omega); exact HB.out (j + 1) (by omega)), fun e => (by cases e), fun hn g o e => by cases e; exact ⟨hgs, Ne.symm hpg⟩, by omega, hbig, HI.out, by omega⟩
    have qq : Below w.heap.size w (W5.setCell ⟨p', 0, none⟩ (.slice (some ⟨ga, 0, none⟩) m cb')) := q5.setCell (p := ⟨p', 0, none⟩) (by exact hp') _
    go_wp2_with fail
    go_ret2
    exact ⟨p', _, cb', s', cs', rfl, R, hp', hs', fun g o e => by cases e; exact hga, qq⟩
end
end Go.Proofs.Ytcmkjbliiggcbaa
