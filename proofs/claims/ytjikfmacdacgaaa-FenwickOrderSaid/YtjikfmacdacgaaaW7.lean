/-
  Find, whole.
-/
import Derived.Test.YtjikfmacdacgaaaW5
import Derived.Deep.RegionHeld3
set_option linter.unusedVariables false
set_option linter.unusedSimpArgs false
namespace Go.Proofs.Ytjikfmacdacgaaa
open Go.RowKit Go.Shelf Fw

theorem pow17 {L : Nat} (h : L ≤ 17) : 2 ^ L ≤ 131072 := Nat.le_trans (Nat.pow_le_pow_right (by omega) h) (by omega)
theorem wd_start (n : Nat) (hn : n ≤ 65536) : wrap64 ((2 : Int) ^ Lib.bitLen n) = ((wd (Lib.bitLen n + 1) : Nat) : Int) := by
  have h := pow17 (len_bounds n hn).2
  have h2 : ((2 : Int) ^ Lib.bitLen n) = ((2 ^ Lib.bitLen n : Nat) : Int) := by simp
  rw [h2]
  show wrap64 _ = ((2 ^ Lib.bitLen n : Nat) : Int)
  have : 0 < 2 ^ Lib.bitLen n := Nat.two_pow_pos _
  unfold wrap64
  omega

theorem find_low (p : Option Addr) (x : Int) (hx : x < 0) (w : World) :
    Calls Try.prog 21 #[.pointer p, .int .i64 x] w fun e w' => e = .returned (.tuple #[.int .i64 0, .bool false]) ∧ Below w.heap.size w w' := by
  have hv0 : Below w.heap.size w ((w.alloc (.cells #[.pointer p] 24)).alloc (.cells #[.int .i64 x] 2)) := ((Below.refl _ _).alloc (Nat.le_refl _) _).alloc (by simp) _
  go_enter Try.func21, Try.ntmps21
  go_wp2_with fail
  go_quiet (fail)
  go_wp2_with fail
  go_ret2
  exact ⟨rfl, below_drewN hv0 _⟩

theorem find_no (p : Option Addr) (x : Int) (w : World) (h : NoFw w p) :
    Calls Try.prog 21 #[.pointer p, .int .i64 x] w fun e w' => e = .returned (.tuple #[.int .i64 0, .bool false]) ∧ Below w.heap.size w w' := by
  by_cases hx : x < 0
  · exact find_low p x hx w
  have hx' : decide (x < 0) = false := by simp; omega
  have hv0 : Below w.heap.size w ((w.alloc (.cells #[.pointer p] 24)).alloc (.cells #[.int .i64 x] 2)) := ((Below.refl _ _).alloc (Nat.le_refl _) _).alloc (by simp) _
  go_enter Try.func21, Try.ntmps21
  go_wp2_with fail
  go_region_held3 (fun w' => w'.cell? ⟨w.heap.size, 0, none⟩ = some (.pointer p) ∧ w'.cell? ⟨w.heap.size + 1, 0, none⟩ = some (.int .i64 x)) (go_keep)
    (first | (go_at_call 19; refine (total_no p _ ?_).mono ?_; exact (h.below hv0.drew); rintro e w3 ⟨rfl, hb2⟩; have c3' := hb2.cell (p := ⟨w.heap.size, 0, none⟩) (by simp; omega); have c5' := hb2.cell (p := ⟨w.heap.size + 1, 0, none⟩) (by simp); simp [go_sem] at c3' c5'))
  go_wp2_with fail
  go_ret2
  exact ⟨rfl, hv0.drew.trans (hb2.mono (by simp; omega))⟩

theorem find_big (b s n : Nat) (C : Nat → Int) (x : Int) (w : World) (hfc : FC w b s n C) (hx : 0 ≤ x) (hbig : pre C n ≤ x) :
    Calls Try.prog 21 #[.pointer (some ⟨b, 0, none⟩), .int .i64 x] w fun e w' => e = .returned (.tuple #[.int .i64 0, .bool false]) ∧ Below w.heap.size w w' := by
  have hx' : decide (x < 0) = false := by simp; omega
  have hv0 : Below w.heap.size w ((w.alloc (.cells #[.pointer (some ⟨b, 0, none⟩)] 24)).alloc (.cells #[.int .i64 x] 2)) := ((Below.refl _ _).alloc (Nat.le_refl _) _).alloc (by simp) _
  have k3 : Blk ((w.alloc (.cells #[.pointer (some ⟨b, 0, none⟩)] 24)).alloc (.cells #[.int .i64 x] 2)) w.heap.size 24 #[.pointer (some ⟨b, 0, none⟩)] := (Blk.new _ _ _).alloc _
  have k5 : Blk ((w.alloc (.cells #[.pointer (some ⟨b, 0, none⟩)] 24)).alloc (.cells #[.int .i64 x] 2)) (w.heap.size + 1) 2 #[.int .i64 x] := by have := Blk.new (w.alloc (.cells #[.pointer (some ⟨b, 0, none⟩)] 24)) 2 #[.int .i64 x]; simpa using this
  have hsz : ((w.alloc (.cells #[.pointer (some ⟨b, 0, none⟩)] 24)).alloc (.cells #[.int .i64 x] 2)).heap.size = w.heap.size + 1 + 1 := by simp
  go_enter Try.func21, Try.ntmps21
  go_wp2_with fail
  generalize (w.alloc (.cells #[.pointer (some ⟨b, 0, none⟩)] 24)).alloc (.cells #[.int .i64 x] 2) = W0 at *
  have hf := hfc.below hv0
  have HZ := Lib.hid hsz
  clear hsz
  have c3 := k3.cell 0
  have c5 := k5.cell 0
  simp at c3 c5
  go_region_held3 (fun w' => w'.cell? ⟨w.heap.size, 0, none⟩ = some (.pointer (some ⟨b, 0, none⟩)) ∧ w'.cell? ⟨w.heap.size + 1, 0, none⟩ = some (.int .i64 x)) (go_keep)
    (first | (go_at_call 19; refine (total_ok b s n C _ ?_).mono ?_; exact (hf.below (Below.refl _ _).drew); rintro e w3 ⟨u, rfl, hu, hu0, hu1, hb2⟩; have k3' := k3.drew.below hb2 k3.lt; have k5' := k5.drew.below hb2 k5.lt; have hf3 := (hf.below (Below.refl _ _).drew).below hb2; have c3' := k3'.cell 0; have c5' := k5'.cell 0; simp at c3' c5'))
  have HU := hu.out
  have hux : u ≤ x := by omega
  clear HU
  go_wp2_with fail
  go_ret2
  exact ⟨rfl, hv0.drew.trans (hb2.mono hv0.size)⟩

set_option maxHeartbeats 1000000 in
theorem find_ok (b s n : Nat) (C : Nat → Int) (x : Int) (i : Nat) (w : World) (hfc : FC w b s n C) (hfo : Fw.Found C n x i) :
    Calls Try.prog 21 #[.pointer (some ⟨b, 0, none⟩), .int .i64 x] w fun e w' => e = .returned (.tuple #[.int .i64 i, .bool true]) ∧ Below w.heap.size w w' := by
  have hx : 0 ≤ x := Int.le_trans (hfc.good.pre_nn (Nat.le_of_lt hfo.1)) hfo.2.1
  have hxn : x < pre C n := by
    have := pre_mono hfc.good.nn (i + 1) n hfo.1 (Nat.le_refl _)
    have := hfo.2.2
    omega
  have hFO := Lib.hid hfo
  clear hfo
  have hxm : x ≤ 9223372036854775807 := by have := hfc.good.tot; omega
  have hn := hfc.hn
  have hx' : decide (x < 0) = false := by simp; omega
  have hv0 : Below w.heap.size w ((w.alloc (.cells #[.pointer (some ⟨b, 0, none⟩)] 24)).alloc (.cells #[.int .i64 x] 2)) := ((Below.refl _ _).alloc (Nat.le_refl _) _).alloc (by simp) _
  have k3 : Blk ((w.alloc (.cells #[.pointer (some ⟨b, 0, none⟩)] 24)).alloc (.cells #[.int .i64 x] 2)) w.heap.size 24 #[.pointer (some ⟨b, 0, none⟩)] := (Blk.new _ _ _).alloc _
  have k5 : Blk ((w.alloc (.cells #[.pointer (some ⟨b, 0, none⟩)] 24)).alloc (.cells #[.int .i64 x] 2)) (w.heap.size + 1) 2 #[.int .i64 x] := by have := Blk.new (w.alloc (.cells #[.pointer (some ⟨b, 0, none⟩)] 24)) 2 #[.int .i64 x]; simpa using this
  have hsz : ((w.alloc (.cells #[.pointer (some ⟨b, 0, none⟩)] 24)).alloc (.cells #[.int .i64 x] 2)).heap.size = w.heap.size + 1 + 1 := by simp
  go_enter Try.func21, Try.ntmps21
  go_wp2_with fail
  generalize (w.alloc (.cells #[.pointer (some ⟨b, 0, none⟩)] 24)).alloc (.cells #[.int .i64 x] 2) = W0 at *
  have hf := hfc.below hv0
  have HZ := Lib.hid hsz
  clear hsz
  have c3 := k3.cell 0
  have c5 := k5.cell 0
  simp at c3 c5
  go_region_held3 (fun w' => w'.cell? ⟨w.heap.size, 0, none⟩ = some (.pointer (some ⟨b, 0, none⟩)) ∧ w'.cell? ⟨w.heap.size + 1, 0, none⟩ = some (.int .i64 x)) (go_keep)
    (first | (go_at_call 19; refine (total_ok b s n C _ ?_).mono ?_; exact (hf.below (Below.refl _ _).drew); rintro e w3 ⟨u, rfl, hu, hu0, hu1, hb2⟩; have k3' := k3.drew.below hb2 k3.lt; have k5' := k5.drew.below hb2 k5.lt; have hf3 := (hf.below (Below.refl _ _).drew).below hb2; have c3' := k3'.cell 0; have c5' := k5'.cell 0; simp at c3' c5'))
  have HU := hu.out
  have hux : x < u := by omega
  clear HU
  have hL := len_bounds n hn
  have hz2 : w.heap.size + 1 + 1 ≤ w3.heap.size := by rw [← HZ.out]; exact hb2.size
  have hslt0 := hfc.fw.lt
  have hb0 : Below w.heap.size w w3 := hv0.drew.trans (hb2.mono hv0.size)
  have hb1 : Below w.heap.size w (w3.alloc (.cells #[.int .i64 0] 3)) := hb0.alloc (by omega) _
  have j3 := k3'.alloc (.cells #[.int .i64 0] 3)
  have j5 := k5'.alloc (.cells #[.int .i64 0] 3)
  have j6 := Blk.new w3 3 #[.int .i64 0]
  have hf6 := hf3.below ((Below.refl _ w3).alloc (Nat.le_refl _) (.cells #[.int .i64 0] 3))
  have hz6 := Lib.hid (show (w3.alloc (.cells #[.int .i64 0] 3)).heap.size = w3.heap.size + 1 by simp)
  have d3 := j3.cell 0
  have d5 := j5.cell 0
  simp at d3 d5
  have hq0 : (0 : Int) ≤ (n : Int) := by omega
  have HW := Lib.hid (wd_start n hn)
  go_wp2_with (first | (go_at_call 26; refine (len_ok b s n _ _ hf6.fw hn).mono ?_; rintro e w' ⟨rfl, rfl⟩) | (go_at_call 36; refine (Try.bits_Len _ _ hq0 (by omega)).mono ?_; rintro e w' ⟨rfl, rfl⟩))
  have hne1 := hf6.fw.ne
  have hslt3 := hf3.fw.lt
  go_loopw [8] (fun v wr => ∃ (m a : Nat), v = .int .i64 (wd m : Nat) ∧ m ≤ 18 ∧ Hid (Desc C n x m a) ∧ FindAt wr w3.heap.size w.heap.size (w.heap.size + 1) b s n (tree C) a (x - pre C a) ∧ Below w.heap.size w wr ∧ w3.heap.size ≤ wr.heap.size)
    (fun v _ => (intOf v).toNat)
  case atStart =>
    refine ⟨Lib.bitLen n + 1, 0, by rw [HW.out], by omega, ⟨0, by simp, by omega, hx, .inl ?_⟩, ⟨j6, j3, by simpa [pre] using j5, hf6.fw⟩, hb1, by rw [hz6.out]; omega⟩
    have h1 := hL.1
    rw [Nat.pow_succ]
    omega
  case round =>
    obtain ⟨m, a, rfl, hm, hD, hF, hB, hzr⟩ := hrel
    clear d3 d5 c3' c5' c3 c5
    cases m with
    | zero =>
      have e : a = i := desc_end hfc.good.nn hD.out hFO.out
      subst e
      have ka := hF.ka.cell 0
      simp at ka
      have hwd : wd 0 = 0 := rfl
      go_wp2_with fail
      go_ret2
      exact ⟨rfl, hB⟩
    | succ j =>
      have hj := pow17 (L := j) (by omega)
      have hpos : 0 < 2 ^ j := Nat.two_pow_pos j
      obtain ⟨V, hV⟩ : ∃ V, V = 2 ^ j := ⟨_, rfl⟩
      have e1 : wd (j + 1) = V := hV.symm
      have e2 := wd_half j
      rw [e1] at e2 ⊢
      rw [← hV] at hj hpos
      have htr := desc_tree hD.out
      rw [← hV] at htr
      have ha : a ≤ n := by obtain ⟨c, _, h, _⟩ := hD.out; exact h
      by_cases hy : a + V ≤ n ∧ tree C (a + V) ≤ x - pre C a
      · obtain ⟨hy1, hy2⟩ := hy
        have HN : Hid (Desc C n x j (a + V)) := by rw [hV] at hy1 hy2 htr ⊢; exact desc_yes hD.out hy1 (by omega)
        have hx1 : x - pre C a - tree C (a + V) = x - pre C (a + V) := by omega
        have ht0 := tree_nonneg hfc.good.nn (a + V) hy1
        have hp0 := hfc.good.pre_nn ha
        have HX := Lib.hid hx1
        have E2 := Lib.hid e2
        clear e1 e2 htr hx1 hV
        go_wp2_with fail
        refine (step_yes w3.heap.size w.heap.size (w.heap.size + 1) b s n (tree C) a V (x - pre C a) _ hF hn hy1 hy2 ht0 (by omega) (by omega) (by refine ⟨?_, ?_, ?_, ?_, ?_, ?_⟩ <;> omega)).mono ?_
        rintro e w7 ⟨rfl, hF7, hT7⟩
        go_wp2_with fail
        go_roundw
        case rel => exact ⟨j, a + V, by rw [← E2.out]; first | rfl | go_num, by omega, HN, by rw [← HX.out]; exact hF7, below_turns hB (by omega) hT7 (by omega), Nat.le_trans hzr hT7.size⟩
        case measure => simp [intOf]; omega
      · have HN : Hid (Desc C n x j a) := by
          rw [hV] at hy htr
          refine desc_no hD.out ?_
          omega
        have hno : n < a + V ∨ x - pre C a < tree C (a + V) := by omega
        have E2 := Lib.hid e2
        clear e1 e2 htr hy hV
        go_wp2_with fail
        refine (step_no w3.heap.size w.heap.size (w.heap.size + 1) b s n (tree C) a V (x - pre C a) _ hF hn ha hj hno).mono ?_
        rintro e w7 ⟨rfl, hF7, hT7⟩
        go_wp2_with fail
        go_roundw
        case rel => exact ⟨j, a, by rw [← E2.out]; first | rfl | go_num, by omega, HN, hF7, below_turns hB (by omega) hT7 (by omega), Nat.le_trans hzr hT7.size⟩
        case measure => simp [intOf]; omega

end Go.Proofs.Ytjikfmacdacgaaa
