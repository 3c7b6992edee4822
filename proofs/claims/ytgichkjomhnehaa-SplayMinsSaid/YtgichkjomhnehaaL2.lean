/-
  SplayPlaces, walked.
-/
import Derived.Test.YtgichkjomhnehaaL6
set_option linter.unusedVariables false
set_option linter.unusedSimpArgs false
namespace Go.Proofs.Ytgichkjomhnehaa
open Go.RowKit Go.Shelf

def hdQ (Q : Nat → List Nat) (y : Nat) : Nat := (Q y).getD 0 0
def cntH (Q : Nat → List Nat) (k : Nat) : Nat := (List.range 40).countP (fun y => decide (hdQ Q y < k))
theorem countP_lt_succ (f : Nat → Nat) (k : Nat) : ∀ l : List Nat, l.countP (fun y => decide (f y < k + 1)) = l.countP (fun y => decide (f y < k)) + l.countP (fun y => decide (f y = k))
  | [] => rfl
  | a :: l => by
    have ih := countP_lt_succ f k l
    simp only [List.countP_cons, ih, decide_eq_true_eq]
    by_cases h1 : f a < k
    · rw [if_pos (by omega), if_pos h1, if_neg (by omega)]; omega
    · by_cases h2 : f a = k
      · rw [if_pos (by omega), if_neg h1, if_pos h2]; omega
      · rw [if_neg (by omega), if_neg h1, if_neg h2]; omega
theorem countP_mem {l : List Nat} {n : Nat} (hd : l.Nodup) (hl : ∀ x ∈ l, x < n) : (List.range n).countP (fun y => decide (y ∈ l)) = l.length := by
  rw [List.countP_eq_length_filter]
  apply List.Perm.length_eq
  rw [List.perm_iff_count]
  intro a
  have c1 : (List.range n).count a = if a < n then 1 else 0 := by rw [List.count_range]
  by_cases ha : a ∈ l
  · rw [List.count_filter (by simpa using ha), c1, if_pos (hl a ha)]
    exact (Nat.le_antisymm (List.nodup_iff_count.1 hd a) (List.count_pos_iff.2 ha)).symm
  · rw [List.count_eq_zero.2 ha, List.count_eq_zero.2 (fun e => ha (by simpa using (List.mem_filter.1 e).2))]
theorem hdQ_pos {Q : Nat → List Nat} (h : Abs Q 40) {x : Nat} (hx : x < 40) : (Q x)[0]? = some (hdQ Q x) := by
  have hp : 0 < (Q x).length := List.length_pos_of_mem (h x hx).1
  unfold hdQ
  rw [List.getD_eq_getElem?_getD, List.getElem?_eq_getElem hp]
  rfl
theorem hdQ_mem {Q : Nat → List Nat} (h : Abs Q 40) {x : Nat} (hx : x < 40) : hdQ Q x ∈ Q x := List.mem_of_getElem? (hdQ_pos h hx)
theorem cntH_step {Q : Nat → List Nat} (h : Abs Q 40) {x k : Nat} (hx : x < 40) (hk : IsPos Q x k) : cntH Q (x + 1) = cntH Q x + (if k = 0 then (Q x).length else 0) := by
  unfold cntH
  rw [countP_lt_succ (hdQ Q) x]
  congr 1
  unfold IsPos at hk
  by_cases hk0 : k = 0
  · rw [if_pos hk0, ← countP_mem (h x hx).2.1 (fun y hy => ((h x hx).2.2 y hy).1)]
    subst hk0
    have hh : hdQ Q x = x := by
      have := hdQ_pos h hx
      rw [hk] at this
      exact (Option.some.inj this).symm
    apply List.countP_congr
    intro y hy
    have hy40 : y < 40 := List.mem_range.1 hy
    simp only [decide_eq_true_eq]
    constructor
    · intro e
      have := hdQ_mem h hy40
      rw [e] at this
      rw [((h y hy40).2.2 x this).2]
      exact (h y hy40).1
    · intro e
      show (Q y).getD 0 0 = x
      rw [((h x hx).2.2 y e).2]
      exact hh
  · rw [if_neg hk0, List.countP_eq_zero]
    intro y hy
    have hy40 : y < 40 := List.mem_range.1 hy
    simp only [decide_eq_true_eq]
    intro e
    have h1 := hdQ_pos h hy40
    have h2 := hdQ_mem h hy40
    rw [e] at h1 h2
    rw [← ((h y hy40).2.2 x h2).2] at h1
    exact hk0 (nodup_idx (h x hx).2.1 hk h1)
theorem cntH_all {Q : Nat → List Nat} (h : Abs Q 40) : cntH Q 40 = 40 := by
  unfold cntH
  rw [List.countP_eq_length.2 (fun y hy => by
    have hy40 : y < 40 := List.mem_range.1 hy
    exact decide_eq_true ((h y hy40).2.2 _ (hdQ_mem h hy40)).1)]
  rfl
theorem cntH_zero (Q : Nat → List Nat) : cntH Q 0 = 0 := by
  unfold cntH
  rw [List.countP_eq_zero]
  intro y _
  simp
def fd (p k : Nat) : Nat := if p < k then 1 else 0
set_option maxRecDepth 100000 in
set_option maxHeartbeats 2500000 in
theorem places_walk (n c : Nat) (A : Option Addr) (z : Nat → Nat → Int) (w : World) (ha : ArgS [.u8, .u8, .u8, .i64] w A n c z) :
    Calls Try.prog 5 #[.slice A n c] w fun e w' => e = .returned (.bool true) ∧ Below w.heap.size w w' := by
  have x0 := played_ok n c A z w ha
  go_enter Try.func5, Try.ntmps5
  go_wp2_with fail
  refine x0.mono ?_
  rintro e w1 ⟨b, s, rfl, h, hb, hs, q⟩
  clear x0
  generalize playP z (min n 200) = P at *
  obtain ⟨Q, U⟩ := P
  have h : SQ w1 b s 40 Q U := h
  have HAB := Lib.hid h.ab
  have hsB := h.lt.2.1
  go_wp2_with fail
  go_loopw [4, 5, 6, 7, 8, 9, 10, 11, 12, 13] (fun vx _ _ _ _ _ _ _ _ _ wr => ∃ x : Nat, vx = .int .i64 x ∧ x ≤ 40 ∧ SQ wr b s 40 Q U ∧ Below w.heap.size w wr) (fun vx _ _ _ _ _ _ _ _ _ _ => 40 - (intOf vx).toNat)
  case atStart => exact ⟨0, rfl, Nat.zero_le _, h, q⟩
  case round =>
    clear h q
    obtain ⟨x, rfl, hx, h, q⟩ := hrel
    by_cases hlt : x < 40
    · have hx40 : (x : Int) < 40 := by omega
      have HLX := Lib.hid (h.len hlt)
      have hsr := h.lt.2.1
      have x1 := list_ok b s 40 _ _ x wr h hlt
      obtain ⟨wo, hwo⟩ : ∃ wo, wo = wr.heap.size := ⟨_, rfl⟩
      rw [← hwo] at x1 hsr
      clear hwo
      go_wp2_with fail
      refine x1.mono ?_
      rintro e w2 ⟨v2, rfl, r, h, hT⟩
      have q := below_step q hs hT
      clear x1
      obtain ⟨g, cc, rfl⟩ := r.form HLX.out.2 (List.length_pos_of_mem (HAB.out x hlt).1)
      have x1 := len_ok b s 40 _ _ x w2 h hlt
      obtain ⟨L, hL⟩ : ∃ L, (Q x).length = L := ⟨_, rfl⟩
      rw [hL] at x1 r ⊢
      have hL40 : L ≤ 40 := by have := HLX.out.1; omega
      have HL := Lib.hid hL
      clear hL hT
      go_wp2_with fail
      refine x1.mono ?_
      rintro e w3 ⟨rfl, h, hT⟩
      have q := below_step q hs hT
      have r := r.turns hT hsr
      clear x1 hT
      obtain ⟨px, hpx⟩ : ∃ px, (Q x)[px]? = some x := by
        obtain ⟨i, hi, e⟩ := List.getElem_of_mem (HAB.out x hlt).1
        exact ⟨i, List.getElem?_eq_some_iff.2 ⟨hi, e⟩⟩
      have hpL : px < L := by rw [← HL.out]; exact (List.getElem?_eq_some_iff.1 hpx).1
      have HPX := Lib.hid hpx
      clear hpx
      go_wp2_with fail
      go_loopw [6, 7, 8, 9] (fun vf vk _ _ wr => ∃ k : Nat, vk = .int .i64 k ∧ vf = .int .i64 (fd px k : Nat) ∧ k ≤ L ∧ SQ wr b s 40 Q U ∧ RowL wr wo (.slice (some ⟨g, 0, none⟩) L cc) (Q x) ∧ Below w.heap.size w wr) (fun _ vk _ _ _ => L - (intOf vk).toNat)
      case atStart => exact ⟨0, rfl, rfl, Nat.zero_le _, h, r, q⟩
      case round =>
        clear h r q
        obtain ⟨k, rfl, rfl, hk, h, r, q⟩ := hrel
        by_cases hkl : k < L
        · have hkL : (k : Int) < (L : Int) := by omega
          have hk0 : (0 : Int) ≤ (k : Int) := by omega
          have hkl2 : k < (Q x).length := by rw [HL.out]; exact hkl
          obtain ⟨y, hy⟩ : ∃ y, (Q x)[k]? = some y := ⟨_, List.getElem?_eq_getElem hkl2⟩
          have hym : y ∈ Q x := List.mem_of_getElem? hy
          obtain ⟨hy40, hyq⟩ := (HAB.out x hlt).2.2 y hym
          have hyd : (Q x).getD k 0 = y := by rw [List.getD_eq_getElem?_getD, hy]; rfl
          have FC := Lib.hid (show ∀ w6, RowL w6 wo (.slice (some ⟨g, 0, none⟩) L cc) (Q x) → w6.cell? ⟨g, k, none⟩ = some (.int .i64 (y : Int)) from fun w6 r => by
            have c0 := r.cell HLX.out.2 (i := k) hkl2
            rw [hyd] at c0
            exact c0)
          have FP := Lib.hid (show ∀ k5, IsPos Q y k5 → k5 = k from fun k5 h5 => by
            unfold IsPos at h5
            rw [hyq] at h5
            exact nodup_idx (HAB.out x hlt).2.1 h5 hy)
          have hs1 : sameB Q x y = true := decide_eq_true hym
          have hs2 : sameB Q y x = true := decide_eq_true (by rw [hyq]; exact (HAB.out x hlt).1)
          obtain ⟨F, hF⟩ : ∃ F, fd px k = F := ⟨_, rfl⟩
          rw [hF]
          have HF := Lib.hid hF
          have HY := Lib.hid hy
          have x1 := at_in b s 40 Q U x k y wr h hlt hy
          clear hF hy hym hyd hyq hkl2
          go_wp2_with fail
          refine x1.mono ?_
          rintro e w4 ⟨rfl, h, hT⟩
          have q := below_step q hs hT
          have r := r.turns hT hsr
          clear x1 hT
          have c0 := FC.out w4 r
          have x1 := pos_ok b s 40 Q U y w4 h hy40
          go_wp2_with fail
          (with_reducible refine x1.mono ?_)
          rintro e w5 ⟨k5, rfl, hk5, h, hT⟩
          obtain rfl := FP.out k5 hk5
          have q := below_step q hs hT
          have r := r.turns hT hsr
          clear x1 hT c0 hk5
          have x1 := same_ok b s 40 Q U x y w5 h hlt hy40
          rw [hs1] at x1
          go_wp2_with fail
          (with_reducible refine x1.mono ?_)
          rintro e w6 ⟨rfl, h, hT⟩
          have q := below_step q hs hT
          have r := r.turns hT hsr
          clear x1 hT
          have x1 := same_ok b s 40 Q U y x w6 h hy40 hlt
          rw [hs2] at x1
          go_wp2_with fail
          (with_reducible refine x1.mono ?_)
          rintro e w7 ⟨rfl, h, hT⟩
          have q := below_step q hs hT
          have r := r.turns hT hsr
          clear x1 hT
          by_cases hyx : y = x
          · have hb1 : ((y : Int) == (x : Int)) = true := by rw [beq_iff_eq]; omega
            have hb2 : (y : Int) = (x : Int) := by omega
            have hkp : k5 = px := nodup_idx (HAB.out x hlt).2.1 (hyx ▸ HY.out) HPX.out
            have hF0 : F = 0 := by rw [← HF.out]; unfold fd; rw [if_neg (by omega)]
            have hF1 := Lib.hid (show fd px (k5 + 1) = 1 by unfold fd; rw [if_pos (by omega)])
            subst hF0
            clear hkp
            go_wp2_with fail
            go_roundw
            case rel =>
              exact ⟨k5 + 1, by simp, by rw [hF1.out]; rfl, by omega, h, r, q⟩
            case measure => simp [intOf]; omega
          · have hb1 : ((y : Int) == (x : Int)) = false := by rw [beq_eq_false_iff_ne]; omega
            have hb2 : ¬ (y : Int) = (x : Int) := by omega
            have hF1 := Lib.hid (show fd px (k5 + 1) = F by
              rw [← HF.out]
              have hkp : k5 ≠ px := fun e => hyx (by
                have h1 := HY.out
                rw [e, HPX.out] at h1
                exact (Option.some.inj h1).symm)
              unfold fd
              by_cases h1 : px < k5
              · rw [if_pos h1, if_pos (by omega)]
              · rw [if_neg h1, if_neg (by omega)])
            go_wp2_with fail
            go_roundw
            case rel => exact ⟨k5 + 1, by simp, by rw [hF1.out], by omega, h, r, q⟩
            case measure => simp [intOf]; omega
        · have hkL : ¬ (k : Int) < (L : Int) := by omega
          have hF1 : fd px k = 1 := by unfold fd; rw [if_pos (by omega)]
          rw [hF1]
          have x1 := at_off b s 40 Q U x (-1) wr h hlt (Or.inl (by omega))
          go_wp2_with fail
          refine x1.mono ?_
          rintro e w4 ⟨rfl, h, hT⟩
          have q := below_step q hs hT
          clear x1 hT
          have x1 := at_off b s 40 Q U x (L : Int) w4 h hlt (Or.inr (by rw [HL.out]; omega))
          go_wp2_with fail
          refine x1.mono ?_
          rintro e w5 ⟨rfl, h, hT⟩
          have q := below_step q hs hT
          clear x1 hT r
          go_wp2_with fail
          go_roundw
          case rel => exact ⟨x + 1, by simp, by omega, h, q⟩
          case measure => simp [intOf]; omega
    · have hx40 : ¬ (x : Int) < 40 := by omega
      go_wp2_with fail
      go_loopw [14, 15] (fun vc vx wr => ∃ x : Nat, vx = .int .i64 x ∧ vc = .int .i64 (cntH Q x : Nat) ∧ x ≤ 40 ∧ SQ wr b s 40 Q U ∧ Below w.heap.size w wr) (fun _ vx _ => 40 - (intOf vx).toNat)
      case atStart => exact ⟨0, rfl, by rw [cntH_zero]; rfl, Nat.zero_le _, h, q⟩
      case round =>
        clear h q
        obtain ⟨y, rfl, rfl, hy, h, q⟩ := hrel
        by_cases hly : y < 40
        · have hy40 : (y : Int) < 40 := by omega
          have x1 := pos_ok b s 40 Q U y wr h hly
          obtain ⟨C, hC⟩ : ∃ C, cntH Q y = C := ⟨_, rfl⟩
          rw [hC]
          have hC40 : C ≤ 40 := by
            rw [← hC]
            have := List.countP_le_length (l := List.range 40) (p := fun z => decide (hdQ Q z < y))
            rwa [List.length_range] at this
          have HC := Lib.hid (show ∀ k, IsPos Q y k → cntH Q (y + 1) = C + (if k = 0 then (Q y).length else 0) from fun k hk => by rw [← hC]; exact cntH_step HAB.out hly hk)
          clear hC
          go_wp2_with fail
          refine x1.mono ?_
          rintro e w2 ⟨k, rfl, hk, h, hT⟩
          have q := below_step q hs hT
          clear x1 hT
          have HK := Lib.hid (HC.out k hk)
          clear hk HC
          by_cases hk0 : k = 0
          · subst hk0
            have x1 := len_ok b s 40 Q U y w2 h hly
            have hLy := (h.len hly).1
            have hK2 := HK.out
            rw [if_pos rfl] at hK2
            generalize (Q y).length = L at *
            have HK := Lib.hid hK2
            clear hK2
            have wC : IntKind.i64.wrap ((C : Int) + (L : Int)) = (C : Int) + (L : Int) := by rw [IntKind.wrap_i64]; omega
            go_wp2_with fail
            refine x1.mono ?_
            rintro e w3 ⟨rfl, h, hT⟩
            have q := below_step q hs hT
            clear x1 hT
            go_wp2_with fail
            go_roundw
            case rel => exact ⟨y + 1, by simp, by rw [HK.out]; simp <;> omega, by omega, h, q⟩
            case measure => simp [intOf]; omega
          · have hb1 : ((k : Int) == 0) = false := by rw [beq_eq_false_iff_ne]; omega
            have hb2 : ¬ (k : Int) = 0 := by omega
            go_wp2_with fail
            go_roundw
            case rel => exact ⟨y + 1, by simp, by rw [HK.out, if_neg hk0]; rfl, by omega, h, q⟩
            case measure => simp [intOf]; omega
        · have hy40 : ¬ (y : Int) < 40 := by omega
          have hye : cntH Q y = 40 := by rw [show y = 40 by omega]; exact cntH_all HAB.out
          rw [hye]
          have x1 := works_ok wr
          go_wp2_with fail
          refine x1.mono ?_
          rintro e w9 ⟨rfl, b9⟩
          have q := below_end q q.size b9
          go_wp2_with fail
          go_ret
          exact ⟨rfl, q⟩
end Go.Proofs.Ytgichkjomhnehaa
