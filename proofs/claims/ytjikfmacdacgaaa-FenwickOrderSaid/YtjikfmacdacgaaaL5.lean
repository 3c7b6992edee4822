/-
  The walk of FenwickFinds.
-/
import Derived.Test.YtjikfmacdacgaaaR9
import Derived.Test.YtjikfmacdacgaaaR6
set_option linter.unusedVariables false
set_option linter.unusedSimpArgs false
namespace Go.Proofs.Ytjikfmacdacgaaa
open Go.RowKit Go.Shelf Fw

theorem prefix_nat (b s n : Nat) (C : Nat → Int) (k : Nat) (hk : k ≤ n) (w : World) (h : FC w b s n C) :
    Calls Try.prog 17 #[.pointer (some ⟨b, 0, none⟩), .int .i64 k] w fun e w' => e = .returned (.int .i64 (pre C k)) ∧ Below w.heap.size w w' := by
  have e1 : preV C n (k : Int) = pre C k := by unfold preV; rw [clip_nat hk]
  rw [← e1]
  exact prefix_all _ b s n C w _ (.inl ⟨rfl, h⟩)
theorem prefix_nat1 (b s n : Nat) (C : Nat → Int) (k : Nat) (hk : k < n) (w : World) (h : FC w b s n C) :
    Calls Try.prog 17 #[.pointer (some ⟨b, 0, none⟩), .int .i64 ((k : Int) + 1)] w fun e w' => e = .returned (.int .i64 (pre C (k + 1))) ∧ Below w.heap.size w w' :=
  prefix_nat b s n C (k + 1) hk w h

set_option maxRecDepth 100000 in
set_option maxHeartbeats 1000000 in
theorem finds_walk (n c : Nat) (A : Option Addr) (z : Nat → Int) (x : Int) (w : World) (ha : ArgI .u16 w A n c z) :
    Calls Try.prog 5 #[.slice A n c, .int .i64 x] w fun e w' => e = .returned (.bool true) ∧ Below w.heap.size w w' := by
  have hnc := ha.1
  have hn63 := ha.2.1
  by_cases hbig : 300 < n
  · go_enter Try.func5, Try.ntmps5
    go_wp2_with (go_at_call 15; refine (works_ok _).mono ?_; rintro e w1 ⟨rfl, hb1⟩)
    go_ret
    exact ⟨rfl, hb1⟩
  have hbig' : decide (300 < (n : Int)) = false := by simp; omega
  have hz : ∀ j, j < n → 0 ≤ z j ∧ z j ≤ 65535 := fun j hj => wf_u16 (ha.2.2.2 j hj)
  have HG := Lib.hid (small_good (by omega) hz)
  have HZ := Lib.hid hz
  clear hz
  go_enter Try.func5, Try.ntmps5
  go_wp2_with fail
  refine (filled_ok n c A z (by omega) _ ha).mono ?_
  rintro e w1 ⟨b, s, rfl, hf, hb, hs, hv⟩
  go_wp2_with fail
  go_loopw [6] (fun vk wr => ∃ k : Nat, vk = .int .i64 k ∧ k ≤ n ∧ FC wr b s n z ∧ Below w.heap.size w wr) (fun vk _ => n - (intOf vk).toNat)
  case atStart => exact ⟨0, rfl, Nat.zero_le _, hf, hv⟩
  case round =>
    clear hf hv
    obtain ⟨k, rfl, hk, hf, hv⟩ := hrel
    by_cases hlt : k < n
    · obtain ⟨g, o, rfl, hg, hc⟩ := (ha.below hv).2.2.1 (by omega)
      have hck := hc k hlt
      have hzk := HZ.out k hlt
      clear hc
      by_cases hz0 : z k = 0
      · have hz0' : (z k == 0) = true := by simp [hz0]
        clear hz0
        go_wp2_with fail
        go_roundw
        case rel => exact ⟨k + 1, by go_num, by omega, hf, hv⟩
        case measure => simp [intOf]; omega
      · have hz0' : (z k == 0) = false := by simp [hz0]
        have e3 : pre z (k + 1) = pre z k + z k := rfl
        have hp0 := HG.out.pre_nn hk
        have hp1 := HG.out.pre_le (k := k + 1) hlt
        have hp2 : 1 ≤ pre z (k + 1) := by omega
        have F1 := Lib.hid (show Fw.Found z n (pre z k) k from ⟨hlt, Int.le_refl _, by omega⟩)
        have F2 := Lib.hid (show Fw.Found z n (pre z (k + 1) - 1) k from ⟨hlt, by omega, by omega⟩)
        clear e3
        go_wp2_with fail
        refine (prefix_nat b s n z k hk _ hf).mono ?_
        rintro e w2 ⟨rfl, hb2⟩
        have hf2 := hf.below hb2
        have hv2 := below_go hv (Nat.le_refl _) hb2
        go_wp2_with fail
        refine (find_ok b s n z _ k _ hf2 F1.out).mono ?_
        rintro e w3 ⟨rfl, hb3⟩
        have hf3 := hf2.below hb3
        have hv3 := below_go hv2 (Nat.le_refl _) hb3
        go_wp2_with fail
        refine (prefix_nat1 b s n z k hlt _ hf3).mono ?_
        rintro e w4 ⟨rfl, hb4⟩
        have hf4 := hf3.below hb4
        have hv4 := below_go hv3 (Nat.le_refl _) hb4
        go_wp2_with fail
        refine (find_ok b s n z _ k _ hf4 F2.out).mono ?_
        rintro e w5 ⟨rfl, hb5⟩
        have hf5 := hf4.below hb5
        have hv5 := below_go hv4 (Nat.le_refl _) hb5
        go_wp2_with fail
        go_roundw
        case rel => exact ⟨k + 1, by go_num, by omega, hf5, hv5⟩
        case measure => simp [intOf]; omega
    · obtain rfl : k = n := by omega
      have ht0 := HG.out.pre_nn (Nat.le_refl k)
      have ht1 := HG.out.tot
      rcases find_cases z (x := x) k HG.out with hx | ⟨i, hi⟩
      · by_cases hx0 : x < 0
        · have hx1 : decide (0 ≤ x) = false := by simp; omega
          go_wp2_with (first
            | (go_at_call 19; refine (total_any _ b s k z _ (.inl ⟨rfl, hf⟩)).mono ?_; rintro e wq ⟨rfl, hb2⟩; have hf' := hf.below hb2; have hv' := below_go hv (Nat.le_refl _) hb2; clear hf hv hb2; have hf := hf'; have hv := hv'; clear hf' hv')
            | (go_at_call 15; refine (works_ok _).mono ?_; rintro e wq ⟨rfl, hb2⟩))
          refine (find_low _ x hx0 _).mono ?_
          rintro e wr2 ⟨rfl, hb2⟩
          have hf' := hf.below hb2; have hv' := below_go hv (Nat.le_refl _) hb2; clear hf hv hb2; have hf := hf'; have hv := hv'; clear hf' hv'
          go_wp2_with (first
            | (go_at_call 19; refine (total_any _ b s k z _ (.inl ⟨rfl, hf⟩)).mono ?_; rintro e wq ⟨rfl, hb2⟩; have hf' := hf.below hb2; have hv' := below_go hv (Nat.le_refl _) hb2; clear hf hv hb2; have hf := hf'; have hv := hv'; clear hf' hv')
            | (go_at_call 15; refine (works_ok _).mono ?_; rintro e wq ⟨rfl, hb2⟩))
          refine (find_big b s k z _ _ hf ht0 (Int.le_refl _)).mono ?_
          rintro e wr2 ⟨rfl, hb2⟩
          have hf' := hf.below hb2; have hv' := below_go hv (Nat.le_refl _) hb2; clear hf hv hb2; have hf := hf'; have hv := hv'; clear hf' hv'
          go_wp2_with (first
            | (go_at_call 19; refine (total_any _ b s k z _ (.inl ⟨rfl, hf⟩)).mono ?_; rintro e wq ⟨rfl, hb2⟩; have hf' := hf.below hb2; have hv' := below_go hv (Nat.le_refl _) hb2; clear hf hv hb2; have hf := hf'; have hv := hv'; clear hf' hv')
            | (go_at_call 15; refine (works_ok _).mono ?_; rintro e wq ⟨rfl, hb2⟩))
          refine (find_low _ (-1) (by decide) _).mono ?_
          rintro e wr2 ⟨rfl, hb2⟩
          have hf' := hf.below hb2; have hv' := below_go hv (Nat.le_refl _) hb2; clear hf hv hb2; have hf := hf'; have hv := hv'; clear hf' hv'
          go_wp2_with (first
            | (go_at_call 19; refine (total_any _ b s k z _ (.inl ⟨rfl, hf⟩)).mono ?_; rintro e wq ⟨rfl, hb2⟩; have hf' := hf.below hb2; have hv' := below_go hv (Nat.le_refl _) hb2; clear hf hv hb2; have hf := hf'; have hv := hv'; clear hf' hv')
            | (go_at_call 15; refine (works_ok _).mono ?_; rintro e wq ⟨rfl, hb2⟩))
          go_ret
          exact ⟨rfl, below_go hv (Nat.le_refl _) hb2⟩
        · have hx1 : 0 ≤ x := by omega
          have hx2 : pre z k ≤ x := by omega
          have hx3 : decide (x < pre z k) = false := by simp; omega
          go_wp2_with (first
            | (go_at_call 19; refine (total_any _ b s k z _ (.inl ⟨rfl, hf⟩)).mono ?_; rintro e wq ⟨rfl, hb2⟩; have hf' := hf.below hb2; have hv' := below_go hv (Nat.le_refl _) hb2; clear hf hv hb2; have hf := hf'; have hv := hv'; clear hf' hv')
            | (go_at_call 15; refine (works_ok _).mono ?_; rintro e wq ⟨rfl, hb2⟩))
          refine (find_big b s k z x _ hf hx1 hx2).mono ?_
          rintro e wr2 ⟨rfl, hb2⟩
          have hf' := hf.below hb2; have hv' := below_go hv (Nat.le_refl _) hb2; clear hf hv hb2; have hf := hf'; have hv := hv'; clear hf' hv'
          go_wp2_with (first
            | (go_at_call 19; refine (total_any _ b s k z _ (.inl ⟨rfl, hf⟩)).mono ?_; rintro e wq ⟨rfl, hb2⟩; have hf' := hf.below hb2; have hv' := below_go hv (Nat.le_refl _) hb2; clear hf hv hb2; have hf := hf'; have hv := hv'; clear hf' hv')
            | (go_at_call 15; refine (works_ok _).mono ?_; rintro e wq ⟨rfl, hb2⟩))
          refine (find_big b s k z _ _ hf ht0 (Int.le_refl _)).mono ?_
          rintro e wr2 ⟨rfl, hb2⟩
          have hf' := hf.below hb2; have hv' := below_go hv (Nat.le_refl _) hb2; clear hf hv hb2; have hf := hf'; have hv := hv'; clear hf' hv'
          go_wp2_with (first
            | (go_at_call 19; refine (total_any _ b s k z _ (.inl ⟨rfl, hf⟩)).mono ?_; rintro e wq ⟨rfl, hb2⟩; have hf' := hf.below hb2; have hv' := below_go hv (Nat.le_refl _) hb2; clear hf hv hb2; have hf := hf'; have hv := hv'; clear hf' hv')
            | (go_at_call 15; refine (works_ok _).mono ?_; rintro e wq ⟨rfl, hb2⟩))
          refine (find_low _ (-1) (by decide) _).mono ?_
          rintro e wr2 ⟨rfl, hb2⟩
          have hf' := hf.below hb2; have hv' := below_go hv (Nat.le_refl _) hb2; clear hf hv hb2; have hf := hf'; have hv := hv'; clear hf' hv'
          go_wp2_with (first
            | (go_at_call 19; refine (total_any _ b s k z _ (.inl ⟨rfl, hf⟩)).mono ?_; rintro e wq ⟨rfl, hb2⟩; have hf' := hf.below hb2; have hv' := below_go hv (Nat.le_refl _) hb2; clear hf hv hb2; have hf := hf'; have hv := hv'; clear hf' hv')
            | (go_at_call 15; refine (works_ok _).mono ?_; rintro e wq ⟨rfl, hb2⟩))
          go_ret
          exact ⟨rfl, below_go hv (Nat.le_refl _) hb2⟩
      · have hi0 := hi.1
        have hi1 := hi.2.1
        have hi2 := hi.2.2
        have hx1 : 0 ≤ x := Int.le_trans (HG.out.pre_nn (Nat.le_of_lt hi0)) hi1
        have hx2 : x < pre z k := by have := pre_mono HG.out.nn (i + 1) k hi0 (Nat.le_refl _); omega
        have hx3 : decide (x < pre z k) = true := by simp; omega
        have HI := Lib.hid hi
        clear hi
        go_wp2_with (first
          | (go_at_call 19; refine (total_any _ b s k z _ (.inl ⟨rfl, hf⟩)).mono ?_; rintro e wq ⟨rfl, hb2⟩; have hf' := hf.below hb2; have hv' := below_go hv (Nat.le_refl _) hb2; clear hf hv hb2; have hf := hf'; have hv := hv'; clear hf' hv')
          | (go_at_call 15; refine (works_ok _).mono ?_; rintro e wq ⟨rfl, hb2⟩))
        refine (find_ok b s k z x i _ hf HI.out).mono ?_
        rintro e wr2 ⟨rfl, hb2⟩
        have hf' := hf.below hb2; have hv' := below_go hv (Nat.le_refl _) hb2; clear hf hv hb2; have hf := hf'; have hv := hv'; clear hf' hv'
        go_wp2_with (first
          | (go_at_call 19; refine (total_any _ b s k z _ (.inl ⟨rfl, hf⟩)).mono ?_; rintro e wq ⟨rfl, hb2⟩; have hf' := hf.below hb2; have hv' := below_go hv (Nat.le_refl _) hb2; clear hf hv hb2; have hf := hf'; have hv := hv'; clear hf' hv')
          | (go_at_call 15; refine (works_ok _).mono ?_; rintro e wq ⟨rfl, hb2⟩))
        refine (find_big b s k z _ _ hf ht0 (Int.le_refl _)).mono ?_
        rintro e wr2 ⟨rfl, hb2⟩
        have hf' := hf.below hb2; have hv' := below_go hv (Nat.le_refl _) hb2; clear hf hv hb2; have hf := hf'; have hv := hv'; clear hf' hv'
        go_wp2_with (first
          | (go_at_call 19; refine (total_any _ b s k z _ (.inl ⟨rfl, hf⟩)).mono ?_; rintro e wq ⟨rfl, hb2⟩; have hf' := hf.below hb2; have hv' := below_go hv (Nat.le_refl _) hb2; clear hf hv hb2; have hf := hf'; have hv := hv'; clear hf' hv')
          | (go_at_call 15; refine (works_ok _).mono ?_; rintro e wq ⟨rfl, hb2⟩))
        refine (find_low _ (-1) (by decide) _).mono ?_
        rintro e wr2 ⟨rfl, hb2⟩
        have hf' := hf.below hb2; have hv' := below_go hv (Nat.le_refl _) hb2; clear hf hv hb2; have hf := hf'; have hv := hv'; clear hf' hv'
        go_wp2_with (first
          | (go_at_call 19; refine (total_any _ b s k z _ (.inl ⟨rfl, hf⟩)).mono ?_; rintro e wq ⟨rfl, hb2⟩; have hf' := hf.below hb2; have hv' := below_go hv (Nat.le_refl _) hb2; clear hf hv hb2; have hf := hf'; have hv := hv'; clear hf' hv')
          | (go_at_call 15; refine (works_ok _).mono ?_; rintro e wq ⟨rfl, hb2⟩))
        refine (prefix_nat b s k z i (Nat.le_of_lt hi0) _ hf).mono ?_
        rintro e wr2 ⟨rfl, hb2⟩
        have hf' := hf.below hb2; have hv' := below_go hv (Nat.le_refl _) hb2; clear hf hv hb2; have hf := hf'; have hv := hv'; clear hf' hv'
        go_wp2_with (first
          | (go_at_call 19; refine (total_any _ b s k z _ (.inl ⟨rfl, hf⟩)).mono ?_; rintro e wq ⟨rfl, hb2⟩; have hf' := hf.below hb2; have hv' := below_go hv (Nat.le_refl _) hb2; clear hf hv hb2; have hf := hf'; have hv := hv'; clear hf' hv')
          | (go_at_call 15; refine (works_ok _).mono ?_; rintro e wq ⟨rfl, hb2⟩))
        refine (prefix_nat1 b s k z i hi0 _ hf).mono ?_
        rintro e wr2 ⟨rfl, hb2⟩
        have hf' := hf.below hb2; have hv' := below_go hv (Nat.le_refl _) hb2; clear hf hv hb2; have hf := hf'; have hv := hv'; clear hf' hv'
        go_wp2_with (first
          | (go_at_call 19; refine (total_any _ b s k z _ (.inl ⟨rfl, hf⟩)).mono ?_; rintro e wq ⟨rfl, hb2⟩; have hf' := hf.below hb2; have hv' := below_go hv (Nat.le_refl _) hb2; clear hf hv hb2; have hf := hf'; have hv := hv'; clear hf' hv')
          | (go_at_call 15; refine (works_ok _).mono ?_; rintro e wq ⟨rfl, hb2⟩))
        go_ret
        exact ⟨rfl, below_go hv (Nat.le_refl _) hb2⟩

end Go.Proofs.Ytjikfmacdacgaaa
