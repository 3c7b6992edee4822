/-
  Histograms: Merge of a histogram with itself; the document's same.
-/
import Derived.Test.YtcmkjbliiggcbaaM2
import Derived.Test.YtcmkjbliiggcbaaM3
set_option linter.unusedVariables false
set_option linter.unusedSimpArgs false
namespace Go.Proofs.Ytcmkjbliiggcbaa
open Go.RowKit Go.Shelf
section
variable {w : World} {p n : Nat} {B C : Nat → Int} {T : Int} {A : Option Addr} {cb s cs : Nat}
set_option maxRecDepth 100000 in
set_option maxHeartbeats 2000000 in
theorem merge_self (h : Hist w p n B C T A cb s cs) (hg : Good C n T) (ho : T + T ≤ 9223372036854775807) :
    Calls Try.prog 27 #[.pointer (some ⟨p, 0, none⟩), .pointer (some ⟨p, 0, none⟩)] w fun e w' => e = .returned (.int .i64 0) ∧ Hist w' p n B (addR C C (n + 1)) (T + T) A cb s cs ∧ Turns (fun x => x = p ∨ x = s) w w' := by
  have hv := valid_ok h
  have hle := h.le
  have hT0 := hg.t0
  have hTl := hg.le
  have hD := h.below (Below.refl _ w).drew
  have q := (Below.refl w.heap.size w).drew
  have hf : Fits (T + T) := ⟨by omega, by omega⟩
  have E1 := Lib.hid (fitV_in hf)
  have E2 := Lib.hid (fitE_in hf)
  have hps : p ≠ s := by
    obtain ⟨cs', h1, _⟩ := h.row
    exact Blk.ne_ h.blk h1 (by decide)
  have HF := Lib.hid (show ∀ j, j < n + 1 → Fits (C j) ∧ Fits (C j + C j) from fun j hj => by
    have a1 := hg.at_ hj
    exact ⟨⟨by omega, by omega⟩, ⟨by omega, by omega⟩⟩)
  have hcap := h.cap
  clear hf
  go_enter Try.func27, Try.ntmps27
  go_wp2_with fail
  refine hv.mono ?_
  rintro e w' ⟨rfl, rfl⟩
  go_wp2_with fail
  refine hv.mono ?_
  rintro e w' ⟨rfl, rfl⟩
  go_wp2_with fail
  obtain ⟨c0, c1, c2⟩ := hD.cells
  go_region_held3 (fun w'' => w''.cell? ⟨p, 0, none⟩ = some (.slice A n cb)) (go_keep)
    (first
      | (go_at_call 45; refine (equal_ok n n cb cb A A B B _ hD.arg hD.arg (by omega)).mono ?_; rintro e w1 ⟨he, hv1⟩; rcases he with ⟨rfl, _⟩ | ⟨_, he⟩; rotate_left; exact (he ⟨rfl, fun _ _ => rfl⟩).elim; have h1 := hD.below hv1; obtain ⟨m0, m1, m2⟩ := h1.cells)
      | fail)
  all_goals
    have q1 := below_end q q.size hv1
    have h1d := h1.below (Below.refl _ w1).drew
    go_wp2_with fail
    clear c0 c1 c2 m0 m1 m2
    obtain ⟨c0, c1, c2⟩ := h1d.cells
    go_region_held3 (fun w'' => w''.cell? ⟨p, 2, none⟩ = some (.int .i64 T)) (go_keep)
      (first
        | (go_at_call 42; refine (add_ok T T ⟨by omega, by omega⟩ ⟨by omega, by omega⟩ _).mono ?_; rw [E1.out, E2.out]; rintro e w' ⟨rfl, rfl⟩)
        | fail)
    all_goals
      have h1e : Hist w1.drew p n B C T A cb s cs := h1d
      have z2 := h1e.blk.frozen 2
      obtain ⟨x0, x1, x2⟩ := h1e.cells
      go_upto_region 9 with fail
      have hh1 : Hist (w1.setCell ⟨p, 2, none⟩ (.int .i64 (T + T))).drew p n B C (T + T) A cb s cs :=
        ⟨h1e.blk.set_ 2 _, h1e.row.far (by exact Ne.symm hps) _, ArgI.far h1e.arg (fun hn g o e => (h1e.far hn g o e).2) _, h1e.nil, h1e.far, h1e.cap, h1e.big, h1e.inc, h1e.le⟩
      have ht1 : Turns (fun x => x = p ∨ x = s) w (w1.setCell ⟨p, 2, none⟩ (.int .i64 (T + T))).drew := (((Turns.refl _ w).drew.trans (Turns.of_below hv1 _)).drew).setCell (p := ⟨p, 2, none⟩) (.inr (.inl rfl)) _
      generalize (w1.setCell ⟨p, 2, none⟩ (.int .i64 (T + T))).drew = W1 at *
      clear x0 x1 x2 z2 c0 c1 c2
      have hh1d := hh1.below (Below.refl _ W1).drew
      obtain ⟨c0, c1, c2⟩ := hh1d.cells
      go_wp2_with fail
      go_region_held3 (fun w'' => w''.cell? ⟨p, 1, none⟩ = some (.slice (some ⟨s, 0, none⟩) (n + 1) cs)) (go_keep)
        (first
          | (go_at_call 46; refine (addTo_self (n + 1) cs cs s C _ hh1d.row (by omega) hcap hcap HF.out).mono ?_; rintro e w5 ⟨rfl, r5, t5⟩; have b5 := hh1d.blk.turns t5 hps; have e1 := b5.cell 1; simp at e1)
          | fail)
      all_goals
        have R : Hist w5 p n B (addR C C (n + 1)) (T + T) A cb s cs :=
          ⟨b5, r5, ArgI.turns hh1d.arg t5 (fun hn g o e => (hh1d.far hn g o e).1), hh1d.nil, hh1d.far, hh1d.cap, hh1d.big, hh1d.inc, hh1d.le⟩
        have t6 := ((ht1.drew).trans (t5.mono (fun x _ hx => .inr hx)))
        go_wp2_with fail
        go_ret
        exact ⟨rfl, R, t6⟩
end
end Go.Proofs.Ytcmkjbliiggcbaa
