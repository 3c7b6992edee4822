/-
  The document's sequences: node, check, find.
-/
import Derived.Test.YtgichkjomhnehaaT2
set_option linter.unusedVariables false
set_option linter.unusedSimpArgs false
namespace Go.Proofs.Ytgichkjomhnehaa
open Go.RowKit Go.Shelf

section
variable {w : World} {r c n : Nat} {LL : List (List Nat)} {U : Nat → Int}
theorem RL.cell0 (h : RL w r c n LL U) : w.cell? ⟨r, 0, none⟩ = some (.bool true) := by
  obtain ⟨h0, hn, hf, vL, ss, vV, h1, h2, h3⟩ := h
  exact h1.cell 0
theorem RL.cellL (h : RL w r c n LL U) : ∃ A cc, w.cell? ⟨r, 1, none⟩ = some (.slice A LL.length cc) ∧ LL.length ≤ cc ∧ cc ≤ 9223372036854775807 ∧ (0 < LL.length → ∃ g, A = some ⟨g, 0, none⟩) ∧
    ∃ ss, Cls w c c (.slice A LL.length cc) LL ss := by
  obtain ⟨h0, hn, hf, vL, ss, vV, h1, h2, h3⟩ := h
  obtain ⟨A, cc, rfl, k1, k2, k3⟩ := owns_slice h2.1
  exact ⟨A, cc, h1.cell 1, k1, k2, k3, ss, h2⟩
theorem RL.cellV (h : RL w r c n LL U) : ∃ A cc, w.cell? ⟨r, 2, none⟩ = some (.slice A n cc) ∧ n ≤ cc ∧ cc ≤ 9223372036854775807 ∧ (0 < n → ∃ g, A = some ⟨g, 0, none⟩ ∧ c ≤ g ∧ g < w.heap.size) ∧ w.ownsRow c 2 1 (.slice A n cc) n (vals U n) := by
  obtain ⟨h0, hn, hf, vL, ss, vV, h1, h2, h3⟩ := h
  obtain ⟨A, cc, rfl, k1, k2, k3⟩ := owns_slice h3
  exact ⟨A, cc, h1.cell 2, k1, k2, fun hn => by obtain ⟨g, rfl⟩ := k3 hn; exact ⟨g, rfl, World.ownsRow.lt h3 g rfl⟩, h3⟩
theorem Cls.row {B cc : Nat} {A : Option Addr} {ls : List (List Nat)} {ss : List Value} (h : Cls w B c (.slice A ls.length cc) ls ss) {i : Nat} {l : List Nat} (hl : ls[i]? = some l) :
    ∃ g Ai ci, A = some ⟨g, 0, none⟩ ∧ w.cell? ⟨g, i, none⟩ = some (.slice Ai l.length ci) ∧ l.length ≤ ci ∧ ci ≤ 9223372036854775807 ∧ RowL w c (.slice Ai l.length ci) l ∧ (∀ k y : Nat, l[k]? = some y → ∃ gi, Ai = some ⟨gi, 0, none⟩ ∧ w.cell? ⟨gi, k, none⟩ = some (.int .i64 (y : Int))) ∧ ss[i]? = some (.slice Ai l.length ci) := by
  have hi := (List.getElem?_eq_some_iff.1 hl).1
  obtain ⟨v, h1, h2⟩ := h.get hl
  obtain ⟨Ai, ci, rfl, k1, k2, k3⟩ := owns_slice h2
  have hA : ∃ g, A = some ⟨g, 0, none⟩ := by
    obtain ⟨A', c', e, _, _, k⟩ := owns_slice h.1
    cases e
    exact k (by omega)
  obtain ⟨g, rfl⟩ := hA
  refine ⟨g, Ai, ci, rfl, owns_cell h.1 h1, k1, k2, h2, fun k y hy => ?_, h1⟩
  obtain ⟨gi, rfl⟩ := k3 (by have := (List.getElem?_eq_some_iff.1 hy).1; omega)
  refine ⟨gi, rfl, owns_cell h2 ?_⟩
  unfold nums
  rw [List.getElem?_map, hy]
  rfl
end
set_option maxRecDepth 100000 in
theorem rnode_nil (X : Int) (w : World) : Calls Try.prog 62 #[.pointer none, .int .i64 X] w fun e w' => e = .returned (.bool false) ∧ w = w' := by
  go_enter Try.func62, Try.ntmps62
  go_wp2_with fail
  go_ret
  exact ⟨rfl, rfl⟩
set_option maxRecDepth 100000 in
theorem rnode_ok (r c n : Nat) (LL : List (List Nat)) (U : Nat → Int) (X : Int) (w : World) (h : RL w r c n LL U) :
    Calls Try.prog 62 #[.pointer (some ⟨r, 0, none⟩), .int .i64 X] w fun e w' => e = .returned (.bool (hasB n X)) ∧ w = w' := by
  have c0 := h.cell0
  obtain ⟨A, cc, c2, k1, k2, _⟩ := h.cellV
  by_cases h0 : 0 ≤ X
  · have hx2 : decide (X < (n : Int)) = hasB n X := by unfold hasB; simp [h0]
    obtain ⟨v, hv⟩ : ∃ v, hasB n X = v := ⟨_, rfl⟩
    rw [hv] at hx2 ⊢
    go_enter Try.func62, Try.ntmps62
    go_wp2_with fail
    go_ret
    exact ⟨rfl, rfl⟩
  · have HB := Lib.hid (show hasB n X = false from decide_eq_false (by omega))
    go_enter Try.func62, Try.ntmps62
    go_wp2_with fail
    go_ret
    rw [HB.out]
    exact ⟨rfl, rfl⟩
set_option maxRecDepth 100000 in
theorem rcheck_nil (X : Int) (w : World) : Calls Try.prog 55 #[.pointer none, .int .i64 X] w fun e w' => e = .returned (.int .i64 1) ∧ w = w' := by
  go_enter Try.func55, Try.ntmps55
  go_wp2_with fail
  go_ret
  exact ⟨rfl, rfl⟩
set_option maxRecDepth 100000 in
theorem rcheck_ok (r c n : Nat) (LL : List (List Nat)) (U : Nat → Int) (X : Int) (w : World) (h : RL w r c n LL U) :
    Calls Try.prog 55 #[.pointer (some ⟨r, 0, none⟩), .int .i64 X] w fun e w' => e = .returned (.int .i64 (if hasB n X = true then 0 else 3)) ∧ w = w' := by
  have x0 := rnode_ok r c n LL U X w h
  have c0 := h.cell0
  obtain ⟨v, hv⟩ : ∃ v, hasB n X = v := ⟨_, rfl⟩
  rw [hv] at x0 ⊢
  clear hv
  cases v
  all_goals
    go_enter Try.func55, Try.ntmps55
    go_wp2_with fail
    refine x0.mono ?_
    rintro e w' ⟨rfl, rfl⟩
    go_wp2_with fail
    go_ret
    exact ⟨rfl, rfl⟩
set_option maxRecDepth 100000 in
set_option maxHeartbeats 1000000 in
theorem rfind_ok (r c n : Nat) (LL : List (List Nat)) (U : Nat → Int) (x : Nat) (w : World) (h : RL w r c n LL U) (hx : ∃ i k, IsAt LL x i k) (hL : LL.length ≤ 100000) (hl : ∀ l ∈ LL, l.length ≤ 100000) :
    Calls Try.prog 56 #[.pointer (some ⟨r, 0, none⟩), .int .i64 (x : Int)] w fun e w' => ∃ i k : Nat, e = .returned (.tuple #[.int .i64 (i : Int), .int .i64 (k : Int)]) ∧ IsAt LL x i k ∧ w = w' := by
  obtain ⟨A, cc, c1, k1, k2, _, ss, hC⟩ := h.cellL
  have HC := Lib.hid hC
  obtain ⟨i0, k0, ha⟩ := hx
  have hi0 : i0 < LL.length := by obtain ⟨l, e, _⟩ := ha; exact (List.getElem?_eq_some_iff.1 e).1
  have HA := Lib.hid ha
  have HL := Lib.hid hl
  obtain ⟨m, hm⟩ : ∃ m, LL.length = m := ⟨_, rfl⟩
  rw [hm] at c1 k1 hi0 hL
  have HM := Lib.hid hm
  clear hm ha hC hl h
  go_enter Try.func56, Try.ntmps56
  go_wp2_with fail
  go_loop [6, 7] (fun vi vk => ∃ i : Nat, vi = .int .i64 i ∧ i ≤ i0) (fun vi _ => m - (intOf vi).toNat)
  case atStart => exact ⟨0, rfl, Nat.zero_le _⟩
  case round =>
    obtain ⟨i, rfl, hi⟩ := hrel
    have him : (i : Int) < (m : Int) := by omega
    have hil : i < LL.length := by rw [HM.out]; omega
    obtain ⟨l, hl⟩ : ∃ l, LL[i]? = some l := ⟨_, List.getElem?_eq_getElem hil⟩
    obtain ⟨g, Ai, ci, rfl, e1, e2, e3, e4, e5, _⟩ := HC.out.row hl
    have HE := Lib.hid e5
    have hLl := HL.out l (List.mem_of_getElem? hl)
    have HI2 := Lib.hid (show ∀ k y, l[k]? = some y → y = x → IsAt LL x i k from fun k y h2 h3 => ⟨l, hl, by rw [h2, h3]⟩)
    have HI3 := Lib.hid (show i = i0 → l[k0]? = some x from fun e => by
      obtain ⟨l', h1, h2⟩ := HA.out
      rw [← e, hl] at h1
      cases h1
      exact h2)
    obtain ⟨q, hq⟩ : ∃ q, l.length = q := ⟨_, rfl⟩
    rw [hq] at e1 e2 hLl
    have HQ := Lib.hid hq
    clear hq e5 e4 hl hil
    go_wp2_with fail
    go_loop [7] (fun vk => ∃ k : Nat, vk = .int .i64 k ∧ k ≤ q ∧ Hid (i = i0 → k ≤ k0)) (fun vk => q - (intOf vk).toNat)
    case atStart => exact ⟨0, rfl, Nat.zero_le _, Lib.hid (fun _ => Nat.zero_le _)⟩
    case round =>
      obtain ⟨k, rfl, hk, HK⟩ := hrel
      by_cases hkq : k < q
      · have hkq2 : (k : Int) < (q : Int) := by omega
        obtain ⟨y, hy⟩ : ∃ y, l[k]? = some y := ⟨_, List.getElem?_eq_getElem (by rw [HQ.out]; exact hkq)⟩
        obtain ⟨gi, rfl, c9⟩ := HE.out k y hy
        have HY := Lib.hid hy
        clear hy
        by_cases hyx : y = x
        · have n1 : ((y : Int) == (x : Int)) = true := by rw [beq_iff_eq]; omega
          have n2 : (y : Int) = (x : Int) := by omega
          have HF := Lib.hid (HI2.out k y HY.out hyx)
          clear hyx n2
          go_wp2_with fail
          go_ret2
          exact ⟨i, k, rfl, HF.out, rfl⟩
        · have n1 : ((y : Int) == (x : Int)) = false := by rw [beq_eq_false_iff_ne]; omega
          have n2 : ¬ (y : Int) = (x : Int) := by omega
          have HK2 := Lib.hid (show i = i0 → k + 1 ≤ k0 from fun e => by
            have := HK.out e
            have h2 := HI3.out e
            rcases Nat.lt_or_ge k k0 with h3 | h3
            · omega
            · obtain rfl : k = k0 := by omega
              rw [HY.out] at h2
              exact (hyx (Option.some.inj h2)).elim)
          go_wp2_with fail
          go_round
          case rel => exact ⟨k + 1, by simp, by omega, HK2⟩
          case measure => simp [intOf]; omega
      · have hkq2 : ¬ (k : Int) < (q : Int) := by omega
        have hne : i ≠ i0 := fun e => by
          have h1 := HK.out e
          have h2 := HI3.out e
          have h3 := (List.getElem?_eq_some_iff.1 h2).1
          rw [HQ.out] at h3
          omega
        go_wp2_with fail
        go_round
        case rel => exact ⟨i + 1, by simp, by omega⟩
        case measure => simp [intOf]; omega
end Go.Proofs.Ytgichkjomhnehaa
