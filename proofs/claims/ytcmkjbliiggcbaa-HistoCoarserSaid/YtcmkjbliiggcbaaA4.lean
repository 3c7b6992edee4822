/-
  Histograms: Add, Counts, Bounds.
-/
import Derived.Test.YtcmkjbliiggcbaaA3
set_option linter.unusedVariables false
set_option linter.unusedSimpArgs false
namespace Go.Proofs.Ytcmkjbliiggcbaa
open Go.RowKit Go.Shelf
section
variable {w : World} {p n : Nat} {B C : Nat → Int} {T : Int} {A : Option Addr} {cb s cs : Nat}
theorem row_arg {w : World} {g n c : Nat} {z : Nat → Int} (h : RowF .i64 w g 2 n z) (hn : n ≤ c) (hc : c ≤ 9223372036854775807) (hz : ∀ j, j < n → Fits (z j)) : ArgI .i64 w (some ⟨g, 0, none⟩) n c z :=
  ⟨hn, hc, fun _ => ⟨g, 0, rfl, h.lt, fun i hi => by rw [Nat.zero_add]; exact h.cell hi⟩, fun i hi => fits_wf (hz i hi)⟩
theorem ArgI.far {w : World} {A : Option Addr} {n c : Nat} {z : Nat → Int} (h : ArgI .i64 w A n c z) {p : Addr} (hp : 0 < n → ∀ g o, A = some ⟨g, o, none⟩ → g ≠ p.block) (u : Value) : ArgI .i64 (w.setCell p u) A n c z := by
  obtain ⟨h1, h2, h3, h4⟩ := h
  refine ⟨h1, h2, fun hn => ?_, h4⟩
  obtain ⟨g, o, e, hg, hc⟩ := h3 hn
  refine ⟨g, o, e, by simp [World.setCell]; exact hg, fun i hi => ?_⟩
  have hne := hp hn g o e
  exact (World.cell?_of_block (Below.heap_setCell w p u g hne)).trans (hc i hi)
set_option maxRecDepth 100000 in
theorem counts_ok (h : Hist w p n B C T A cb s cs) (hC : ∀ j, j < n + 1 → Fits (C j)) :
    Calls Try.prog 21 #[.pointer (some ⟨p, 0, none⟩)] w fun e w' => ∃ A' c', e = .returned (.slice A' (n + 1) c') ∧ ArgI .i64 w' A' (n + 1) c' C ∧ A' ≠ none ∧ Below w.heap.size w w' := by
  have hv := valid_ok h
  have hle := h.le
  have ha := row_arg h.row h.cap h.big hC
  obtain ⟨c0, c1, c2⟩ := h.cells
  go_enter Try.func21, Try.ntmps21
  go_wp2_with (first
    | (go_at_call 34; refine hv.mono ?_; rintro e w' ⟨rfl, rfl⟩)
    | (go_at_call 39; refine (clone_ok (n + 1) cs _ C _ ha (fun h => by cases h) (by omega)).mono ?_; rintro e w1 ⟨v, rfl, hown, hb⟩))
  obtain ⟨A', c', rfl, h1, h2, h3⟩ := own_arg hown hC
  go_ret
  exact ⟨_, _, rfl, h1, fun k => by have := (h2 k).1; omega, hb⟩
set_option maxRecDepth 100000 in
theorem bounds_ok (h : Hist w p n B C T A cb s cs) :
    Calls Try.prog 33 #[.pointer (some ⟨p, 0, none⟩)] w fun e w' => ∃ A' c', e = .returned (.slice A' n c') ∧ ArgI .i64 w' A' n c' B ∧ (A' = none → n = 0 ∧ c' = 0) ∧ Below w.heap.size w w' := by
  have hv := valid_ok h
  have hle := h.le
  have hB : ∀ j, j < n → Fits (B j) := fun j hj => wf_i64 (h.arg.2.2.2 j hj)
  have ha := h.arg
  have hA := h.nil
  obtain ⟨c0, c1, c2⟩ := h.cells
  go_enter Try.func33, Try.ntmps33
  go_wp2_with (first
    | (go_at_call 34; refine hv.mono ?_; rintro e w' ⟨rfl, rfl⟩)
    | (go_at_call 39; refine (clone_ok n cb A B _ ha hA (by omega)).mono ?_; rintro e w1 ⟨v, rfl, hown, hb⟩))
  obtain ⟨A', c', rfl, h1, h2, h3⟩ := own_arg hown hB
  go_ret
  exact ⟨_, _, rfl, h1, h2, hb⟩

theorem wrap_i64 {x : Int} (h0 : -9223372036854775808 ≤ x) (h1 : x ≤ 9223372036854775807) : IntKind.i64.wrap x = x := by
  rw [IntKind.wrap_i64]; omega
/-- the sum of the first counts -/
def tot (z : Nat → Int) : Nat → Int
  | 0 => 0
  | k + 1 => tot z k + z k
theorem tot_put (z : Nat → Int) (i : Nat) (v : Int) : ∀ k, tot (fun j => if j = i then v else z j) k = tot z k + if i < k then v - z i else 0
  | 0 => by simp [tot]
  | k + 1 => by
    simp only [tot]
    rw [tot_put z i v k]
    by_cases h : k = i
    · subst h; rw [if_neg (by omega), if_pos (by omega)]; simp; omega
    · rw [if_neg h]
      by_cases h2 : i < k
      · rw [if_pos h2, if_pos (by omega)]; omega
      · rw [if_neg h2, if_neg (by omega)]; omega
/-- the counts are natural numbers, and their sum is the total -/
structure Good (C : Nat → Int) (n : Nat) (T : Int) : Prop where
  nn : ∀ j, 0 ≤ C j
  sum : tot C (n + 1) = T
  le : T ≤ 9223372036854775807
theorem tot_mono {C : Nat → Int} (h : ∀ j, 0 ≤ C j) (i : Nat) : ∀ k, i < k → C i ≤ tot C k
  | 0, hk => by omega
  | k + 1, hk => by
    have h0 : ∀ k, 0 ≤ tot C k := fun k => by induction k with
      | zero => exact Int.le_refl _
      | succ k ih => simp only [tot]; have := h k; omega
    simp only [tot]
    rcases Nat.lt_or_ge i k with h1 | h1
    · have := tot_mono h i k h1; have := h k; omega
    · obtain rfl : i = k := by omega
      have := h0 i; omega
theorem Good.at_ {C : Nat → Int} {n : Nat} {T : Int} (h : Good C n T) {i : Nat} (hi : i < n + 1) : 0 ≤ C i ∧ C i ≤ T := ⟨h.nn i, by rw [← h.sum]; exact tot_mono h.nn i _ hi⟩
theorem Good.fits {C : Nat → Int} {n : Nat} {T : Int} (h : Good C n T) : ∀ j, j < n + 1 → Fits (C j) := fun j hj => by
  have := h.at_ hj; have := h.le; exact ⟨by omega, by omega⟩
theorem Good.t0 {C : Nat → Int} {n : Nat} {T : Int} (h : Good C n T) : 0 ≤ T := by have := h.at_ (i := 0) (by omega); omega
/-- what a number that is counted so many times makes of the counts -/
def addC (B C : Nat → Int) (n : Nat) (x t : Int) : Nat → Int := fun j => if j = bk B x n then C (bk B x n) + t else C j
theorem Good.add {C : Nat → Int} {n : Nat} {T : Int} (h : Good C n T) (B : Nat → Int) (x t : Int) (ht : 0 ≤ t) (hs : T + t ≤ 9223372036854775807) : Good (addC B C n x t) n (T + t) := by
  refine ⟨fun j => ?_, ?_, hs⟩
  · unfold addC; split
    · have := h.nn (bk B x n); omega
    · exact h.nn j
  · unfold addC
    rw [tot_put, if_pos (by have := bk_le B x n; omega), h.sum]; omega

set_option maxRecDepth 100000 in
set_option maxHeartbeats 2000000 in
theorem hadd_neg (h : Hist w p n B C T A cb s cs) (x t : Int) (ht : t < 0) :
    Calls Try.prog 20 #[.pointer (some ⟨p, 0, none⟩), .int .i64 x, .int .i64 t] w fun e w' => e = .returned (.int .i64 2) ∧ w = w' := by
  have hv := valid_ok h
  go_enter Try.func20, Try.ntmps20
  go_wp2_with (go_at_call 34; refine hv.mono ?_; rintro e w' ⟨rfl, rfl⟩)
  go_ret
  exact ⟨rfl, rfl⟩
set_option maxRecDepth 100000 in
set_option maxHeartbeats 2000000 in
theorem hadd_over (h : Hist w p n B C T A cb s cs) (hg : Good C n T) (x t : Int) (ht : 0 ≤ t) (ht1 : t ≤ 9223372036854775807) (ho : 9223372036854775807 < T + t) :
    Calls Try.prog 20 #[.pointer (some ⟨p, 0, none⟩), .int .i64 x, .int .i64 t] w fun e w' => e = .returned (.int .i64 7) ∧ w = w' := by
  have hv := valid_ok h
  have hT0 := hg.t0
  have hT := hg.le
  have hf : ¬ Fits (T + t) := fun k => by have := k.2; omega
  have e1 := Lib.hid (fitV_out hf)
  have e2 := Lib.hid (fitE_out hf)
  clear hf ho
  obtain ⟨c0, c1, c2⟩ := h.cells
  go_enter Try.func20, Try.ntmps20
  go_wp2_with (first
    | (go_at_call 34; refine hv.mono ?_; rintro e w' ⟨rfl, rfl⟩)
    | (go_at_call 42; refine (add_ok T t ⟨by omega, by omega⟩ ⟨by omega, by omega⟩ _).mono ?_; rw [e1.out, e2.out]; rintro e w' ⟨rfl, rfl⟩))
  go_ret
  exact ⟨rfl, rfl⟩
set_option maxRecDepth 100000 in
set_option maxHeartbeats 2000000 in
theorem hadd_ok (h : Hist w p n B C T A cb s cs) (hg : Good C n T) (x t : Int) (ht : 0 ≤ t) (hs : T + t ≤ 9223372036854775807) :
    Calls Try.prog 20 #[.pointer (some ⟨p, 0, none⟩), .int .i64 x, .int .i64 t] w fun e w' => e = .returned (.int .i64 0) ∧ Hist w' p n B (addC B C n x t) (T + t) A cb s cs ∧ Turns (fun k => k = p ∨ k = s) w w' := by
  have hv := valid_ok h
  have hT0 := hg.t0
  have hT := hg.le
  have hf : Fits (T + t) := ⟨by omega, by omega⟩
  have e1 := Lib.hid (fitV_in hf)
  have e2 := Lib.hid (fitE_in hf)
  have hle := h.le
  have hps : p ≠ s := by
    obtain ⟨cs', h1, _⟩ := h.row
    exact Blk.ne_ h.blk h1 (by decide)
  clear hf
  obtain ⟨c0, c1, c2⟩ := h.cells
  have z2 := h.blk.frozen 2
  go_enter Try.func20, Try.ntmps20
  go_upto_region 9 with (first
    | (go_at_call 34; refine hv.mono ?_; rintro e w' ⟨rfl, rfl⟩)
    | (go_at_call 42; refine (add_ok T t ⟨by omega, by omega⟩ ⟨by omega, by omega⟩ _).mono ?_; rw [e1.out, e2.out]; rintro e w' ⟨rfl, rfl⟩))
  have hh1 : Hist (w.setCell ⟨p, 2, none⟩ (.int .i64 (T + t))) p n B C (T + t) A cb s cs := by
    refine ⟨h.blk.set_ 2 _, h.row.far (by exact Ne.symm hps) _, ArgI.far h.arg (fun hn g o e => (h.far hn g o e).2) _, h.nil, h.far, h.cap, h.big, h.inc, h.le⟩
  have ht1 : Turns (fun k => k = p ∨ k = s) w (w.setCell ⟨p, 2, none⟩ (.int .i64 (T + t))) := (Turns.refl _ w).setCell (p := ⟨p, 2, none⟩) (.inr (.inl rfl)) _
  generalize w.setCell ⟨p, 2, none⟩ (.int .i64 (T + t)) = W1 at *
  clear c0 c1 c2 z2 hv
  obtain ⟨c0, c1, c2⟩ := hh1.cells
  have hql := bk_le B x n
  have hh1d := hh1.below (Below.refl _ W1).drew
  have hb := bucket_ok hh1d x
  obtain ⟨q, hq⟩ : ∃ q, bk B x n = q := ⟨_, rfl⟩
  rw [hq] at hql hb
  have hci := hg.at_ (i := q) (by omega)
  have HQ := Lib.hid hq
  obtain ⟨y, hy⟩ : ∃ y, C q = y := ⟨_, rfl⟩
  rw [hy] at hci
  have HY := Lib.hid hy
  have hqn : (q : Int) < (n : Int) + 1 := by omega
  have hyw : IntKind.i64.wrap (y + t) = y + t := wrap_i64 (by omega) (by omega)
  clear hq hy
  go_wp2_with fail
  clear c0 c1 c2
  obtain ⟨c0, c1, c2⟩ := hh1d.cells
  go_region_law (first
    | (go_simp; go_at_call 19; refine hb.mono ?_; rintro e w2 ⟨rfl, hv2⟩; have h2 := hh1d.below hv2; obtain ⟨m0, m1, m2⟩ := h2.cells; have mc := h2.row.cell (i := q) (by omega); rw [HY.out] at mc; have mz := h2.row.frozen q))
  all_goals
    have hsp : s ≠ p := Ne.symm hps
    have R : Hist (w2.setCell ⟨s, q, none⟩ (.int .i64 (y + t))) p n B (addC B C n x t) (T + t) A cb s cs := by
      refine ⟨h2.blk.far (by exact hps) _, (h2.row.set_ q (y + t)).congr (fun i hi => ?_), ArgI.far h2.arg (fun hn g o e => (h2.far hn g o e).1) _, h2.nil, h2.far, h2.cap, h2.big, h2.inc, h2.le⟩
      unfold addC
      rw [HQ.out, HY.out]
    have ht3 : Turns (fun k => k = p ∨ k = s) w (w2.setCell ⟨s, q, none⟩ (.int .i64 (y + t))) := ((ht1.trans ((Turns.refl _ W1).drew)).trans (Turns.of_below hv2 _)).trans ((Turns.refl _ w2).setCell (p := ⟨s, q, none⟩) (.inr (.inr rfl)) _)
    go_wp2_with fail
    go_ret
    exact ⟨rfl, R, ht3⟩
end
end Go.Proofs.Ytcmkjbliiggcbaa
