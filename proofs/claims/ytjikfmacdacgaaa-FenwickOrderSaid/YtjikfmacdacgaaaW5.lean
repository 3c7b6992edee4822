/-
  Find.
-/
import Derived.Test.YtjikfmacdacgaaaW4
import Derived.Deep.QuietTactic
import Derived.BigQuiet
import Derived.Lib.ItoaNum
import Derived.Test.YtjikfmacdacgaaaShelf
set_option linter.unusedVariables false
set_option linter.unusedSimpArgs false
namespace Go.Proofs.Ytjikfmacdacgaaa
open Go.RowKit Go.Shelf Fw

/-- what a step of the descent reads and writes -/
structure FindAt (w : World) (Ba Bc Bx b s n : Nat) (t : Nat → Int) (at_ : Nat) (x : Int) : Prop where
  ka : Blk w Ba 3 #[.int .i64 at_]
  kc : Blk w Bc 24 #[.pointer (some ⟨b, 0, none⟩)]
  kx : Blk w Bx 2 #[.int .i64 x]
  kf : FW w b s n t

theorem step_yes (Ba Bc Bx b s n : Nat) (t : Nat → Int) (at_ width : Nat) (x : Int) (w : World) (h : FindAt w Ba Bc Bx b s n t at_ x) (hn : n ≤ 65536) (hw : at_ + width ≤ n) (hx : t (at_ + width) ≤ x)
    (hx0 : 0 ≤ t (at_ + width)) (hx1 : x ≤ 9223372036854775807) (hne : Ba ≠ Bx) (hnb : Ba ≠ b ∧ Ba ≠ s ∧ Bx ≠ b ∧ Bx ≠ s ∧ Ba ≠ Bc ∧ Bx ≠ Bc) :
    Calls Try.prog 35 #[.int .i64 width, .pointer (some ⟨Ba, 0, none⟩), .pointer (some ⟨Bc, 0, none⟩), .pointer (some ⟨Bx, 0, none⟩)] w fun e w' => e = .returned (.tuple #[]) ∧ FindAt w' Ba Bc Bx b s n t (at_ + width) (x - t (at_ + width)) ∧ Turns (fun k => k = Ba ∨ k = Bx) w w' := by
  have ca := h.ka.cell 0
  have cc := h.kc.cell 0
  have cx := h.kx.cell 0
  simp at ca cc cx
  obtain ⟨c, c1, hc⟩ := h.kf.cell1
  have ct := h.kf.at_ hw
  have fa := h.ka.frozen 0
  have fx := h.kx.frozen 0
  have hd : (at_ : Int) + (width : Int) < (n : Int) + 1 := by omega
  have hp0 : (0 : Int) ≤ (at_ : Int) + (width : Int) := by omega
  have hp1 : ((at_ : Int) + (width : Int)).toNat = at_ + width := by omega
  go_enter Try.func35, Try.ntmps35
  go_wp2_with fail
  go_quiet (fail)
  go_wp2_with fail
  have ka' := (h.ka.drewN nq).set_ 0 (.int .i64 ((at_ : Int) + (width : Int)))
  have kc' := (h.kc.drewN nq).far (p := ⟨Ba, 0, none⟩) (Ne.symm hnb.2.2.2.2.1) (.int .i64 ((at_ : Int) + (width : Int)))
  have kx' := (h.kx.drewN nq).far (p := ⟨Ba, 0, none⟩) (Ne.symm hne) (.int .i64 ((at_ : Int) + (width : Int)))
  have kf' : FW ((w.drewN nq).setCell ⟨Ba, 0, none⟩ (.int .i64 ((at_ : Int) + (width : Int)))) b s n t := by
    obtain ⟨c, cs, q1, q2, q3⟩ := h.kf
    exact ⟨c, cs, (q1.drewN nq).far (p := ⟨Ba, 0, none⟩) (Ne.symm hnb.1) _, (q2.drewN nq).far (p := ⟨Ba, 0, none⟩) (Ne.symm hnb.2.1) _, q3⟩
  have hT : Turns (fun k => k = Ba ∨ k = Bx) w ((w.drewN nq).setCell ⟨Ba, 0, none⟩ (.int .i64 ((at_ : Int) + (width : Int)))) := ((Turns.refl _ w).drewN nq).setCell (p := ⟨Ba, 0, none⟩) (.inr (.inl rfl)) _
  generalize (w.drewN nq).setCell ⟨Ba, 0, none⟩ (.int .i64 ((at_ : Int) + (width : Int))) = W1 at *
  clear ca cc cx c1 ct fa fx
  have cc := kc'.cell 0
  have cx := kx'.cell 0
  simp at cc cx
  obtain ⟨c', c1, hc'⟩ := kf'.cell1
  have ct := kf'.at_ hw
  have fx := kx'.frozen 0
  go_region
  all_goals go_wp2_with fail
  all_goals go_end0
  all_goals
    refine ⟨rfl, ⟨?_, (kc'.far (p := ⟨Bx, 0, none⟩) (Ne.symm hnb.2.2.2.2.2) _).drew, (kx'.set_ 0 _).drew, ?_⟩, (hT.setCell (p := ⟨Bx, 0, none⟩) (.inr (.inr rfl)) _).drew⟩
    · exact (ka'.far (p := ⟨Bx, 0, none⟩) hne _).drew
    · obtain ⟨c, cs, q1, q2, q3⟩ := kf'
      exact ⟨c, cs, (q1.far (p := ⟨Bx, 0, none⟩) (Ne.symm hnb.2.2.1) _).drew, (q2.far (p := ⟨Bx, 0, none⟩) (Ne.symm hnb.2.2.2.1) _).drew, q3⟩

theorem step_no (Ba Bc Bx b s n : Nat) (t : Nat → Int) (at_ width : Nat) (x : Int) (w : World) (h : FindAt w Ba Bc Bx b s n t at_ x) (hn : n ≤ 65536) (han : at_ ≤ n) (hwn : width ≤ 131072) (hx : n < at_ + width ∨ x < t (at_ + width)) :
    Calls Try.prog 35 #[.int .i64 width, .pointer (some ⟨Ba, 0, none⟩), .pointer (some ⟨Bc, 0, none⟩), .pointer (some ⟨Bx, 0, none⟩)] w fun e w' => e = .returned (.tuple #[]) ∧ FindAt w' Ba Bc Bx b s n t at_ x ∧ Turns (fun k => k = Ba ∨ k = Bx) w w' := by
  have ca := h.ka.cell 0
  have cc := h.kc.cell 0
  have cx := h.kx.cell 0
  simp at ca cc cx
  obtain ⟨c, c1, hc⟩ := h.kf.cell1
  by_cases hw : at_ + width ≤ n
  · have hx' : x < t (at_ + width) := by omega
    have ct := h.kf.at_ hw
    have hd : (at_ : Int) + (width : Int) < (n : Int) + 1 := by omega
    have hp0 : (0 : Int) ≤ (at_ : Int) + (width : Int) := by omega
    have hp1 : ((at_ : Int) + (width : Int)).toNat = at_ + width := by omega
    have hd2 : decide (t (at_ + width) ≤ x) = false := by simp; omega
    go_enter Try.func35, Try.ntmps35
    go_wp2_with fail
    go_quiet (fail)
    go_wp2_with fail
    go_end0
    refine ⟨rfl, ⟨h.ka.drewN nq, h.kc.drewN nq, h.kx.drewN nq, ?_⟩, (Turns.refl _ w).drewN nq⟩
    obtain ⟨c, cs, q1, q2, q3⟩ := h.kf
    exact ⟨c, cs, q1.drewN nq, q2.drewN nq, q3⟩
  · have hd : decide ((at_ : Int) + (width : Int) < (n : Int) + 1) = false := by simp; omega
    go_enter Try.func35, Try.ntmps35
    go_wp2_with fail
    go_quiet (fail)
    go_wp2_with fail
    go_end0
    refine ⟨rfl, ⟨h.ka.drewN nq, h.kc.drewN nq, h.kx.drewN nq, ?_⟩, (Turns.refl _ w).drewN nq⟩
    obtain ⟨c, cs, q1, q2, q3⟩ := h.kf
    exact ⟨c, cs, q1.drewN nq, q2.drewN nq, q3⟩

/-- the widths of the descent -/
def wd : Nat → Nat
  | 0 => 0
  | j + 1 => 2 ^ j
theorem wd_half (j : Nat) : wd (j + 1) / 2 = wd j := by
  cases j with
  | zero => rfl
  | succ j => show 2 ^ (j + 1) / 2 = 2 ^ j; rw [Nat.pow_succ]; omega

theorem len_bounds (n : Nat) (hn : n ≤ 65536) : n < 2 ^ Lib.bitLen n ∧ Lib.bitLen n ≤ 17 := by
  by_cases h0 : n = 0
  · subst h0
    rw [show Lib.bitLen 0 = 0 from Lib.bitLenAux_zero 64]
    exact ⟨by decide, by omega⟩
  · obtain ⟨h1, h2, h3⟩ := Lib.bitLenAux_bounds 64 n (by omega) h0
    refine ⟨h3, ?_⟩
    have h4 : 2 ^ (Lib.bitLen n - 1) < 2 ^ 17 := Nat.lt_of_le_of_lt h2 (by omega)
    have := (Nat.pow_lt_pow_iff_right (a := 2) (by omega)).1 h4
    omega

def Desc (C : Nat → Int) (n : Nat) (x : Int) (m at_ : Nat) : Prop := ∃ c, at_ = 2 ^ m * c ∧ at_ ≤ n ∧ pre C at_ ≤ x ∧ (n < at_ + 2 ^ m ∨ x < pre C (at_ + 2 ^ m))

theorem desc_tree {C : Nat → Int} {n : Nat} {x : Int} {j at_ : Nat} (h : Desc C n x (j + 1) at_) : tree C (at_ + 2 ^ j) = pre C (at_ + 2 ^ j) - pre C at_ := by
  obtain ⟨c, rfl, _⟩ := h
  exact tree_at C j c
theorem desc_yes {C : Nat → Int} {n : Nat} {x : Int} {j at_ : Nat} (h : Desc C n x (j + 1) at_) (h1 : at_ + 2 ^ j ≤ n) (h2 : pre C (at_ + 2 ^ j) ≤ x) : Desc C n x j (at_ + 2 ^ j) := by
  obtain ⟨c, rfl, ha, hp, hr⟩ := h
  refine ⟨2 * c + 1, by rw [Nat.pow_succ, Nat.mul_assoc, Nat.mul_add_one], h1, h2, ?_⟩
  rw [show 2 ^ (j + 1) * c + 2 ^ j + 2 ^ j = 2 ^ (j + 1) * c + 2 ^ (j + 1) by rw [Nat.pow_succ 2 j]; omega]
  exact hr
theorem desc_no {C : Nat → Int} {n : Nat} {x : Int} {j at_ : Nat} (h : Desc C n x (j + 1) at_) (h1 : n < at_ + 2 ^ j ∨ x < pre C (at_ + 2 ^ j)) : Desc C n x j at_ := by
  obtain ⟨c, rfl, ha, hp, hr⟩ := h
  exact ⟨2 * c, by rw [Nat.pow_succ, Nat.mul_assoc], ha, hp, h1⟩
theorem desc_end {C : Nat → Int} {n : Nat} {x : Int} {at_ i : Nat} (nn : ∀ j, j < n → 0 ≤ C j) (h : Desc C n x 0 at_) (hf : Fw.Found C n x i) : at_ = i := by
  obtain ⟨c, _, ha, hp, hr⟩ := h
  obtain ⟨f1, f2, f3⟩ := hf
  refine found_uniq nn (x := x) ⟨?_, hp, ?_⟩ ⟨f1, f2, f3⟩
  · rcases Nat.lt_or_ge at_ n with hlt | hge
    · exact hlt
    · have := pre_mono nn (i + 1) at_ (by omega) ha
      omega
  · rcases hr with hr | hr
    · have := pre_mono nn (i + 1) at_ (by omega) ha
      omega
    · exact hr

end Go.Proofs.Ytjikfmacdacgaaa
