/-
  The document's sequences: without, Min.
-/
import Derived.Test.YtgichkjomhnehaaT5
set_option linter.unusedVariables false
set_option linter.unusedSectionVars false
set_option linter.unusedSimpArgs false
namespace Go.Proofs.Ytgichkjomhnehaa
open Go.RowKit Go.Shelf

/-- the first k lists but one -/
def butL (LL : List (List Nat)) (i k : Nat) : List (List Nat) := (LL.take k).eraseIdx i
theorem butL_self {LL : List (List Nat)} {i : Nat} (hi : i < LL.length) : butL LL i (i + 1) = butL LL i i := by
  unfold butL
  apply List.ext_getElem?
  intro j
  rw [List.getElem?_eraseIdx, List.getElem?_eraseIdx]
  by_cases h : j < i
  · rw [if_pos h, if_pos h, List.getElem?_take, List.getElem?_take, if_pos (by omega), if_pos h]
  · rw [if_neg h, if_neg h, List.getElem?_take, List.getElem?_take, if_neg (by omega), if_neg (by omega)]
theorem butL_step {LL : List (List Nat)} {i k : Nat} {l : List Nat} (h : LL[k]? = some l) (hne : k ≠ i) : butL LL i (k + 1) = butL LL i k ++ [l] := by
  obtain ⟨hk, e⟩ := List.getElem?_eq_some_iff.1 h
  unfold butL
  rw [List.take_succ_eq_append_getElem hk, e]
  by_cases hki : k < i
  · rw [List.eraseIdx_append_of_length_le (by simp; omega), List.eraseIdx_of_length_le (l := LL.take k) (by simp; omega)]
    rw [List.eraseIdx_of_length_le (by simp; omega)]
  · rw [List.eraseIdx_append_of_lt_length (by simp; omega)]
theorem butL_all {LL : List (List Nat)} {i : Nat} : butL LL i LL.length = LL.eraseIdx i := by unfold butL; rw [List.take_length]
theorem butL_len (LL : List (List Nat)) (i k : Nat) : (butL LL i k).length ≤ LL.length := by
  unfold butL
  have := (List.eraseIdx_sublist (LL.take k) i).length_le
  rw [List.length_take] at this
  omega
/-- the same, and what is said of each row's value -/
def RLP (P : Value → Prop) (w : World) (r c n : Nat) (LL : List (List Nat)) (U : Nat → Int) : Prop :=
  RL w r c n LL U ∧ ∃ A cc ss, w.cell? ⟨r, 1, none⟩ = some (.slice A LL.length cc) ∧ LL.length ≤ cc ∧ cc ≤ 9223372036854775807 ∧ Cls w c c (.slice A LL.length cc) LL ss ∧ ∀ v ∈ ss, P v
theorem RL.any {w : World} {r c n : Nat} {LL : List (List Nat)} {U : Nat → Int} (h : RL w r c n LL U) : RLP (fun v => ∀ k, v.ownBlock = some k → k < w.heap.size) w r c n LL U := by
  obtain ⟨A, cc, c1, k1, k2, _, ss, hC⟩ := h.cellL
  refine ⟨h, A, cc, ss, c1, k1, k2, hC, fun v hv k hk => ?_⟩
  obtain ⟨i, hi, e⟩ := List.getElem_of_mem hv
  have e1 : ss[i]? = some v := List.getElem?_eq_some_iff.2 ⟨hi, e⟩
  have e2 : LL[i]? = some (LL[i]'(by rw [← hC.2.1]; exact hi)) := List.getElem?_eq_getElem _
  exact (World.ownsRow.lt (hC.2.2 i v _ e1 e2) k hk).2
theorem RLP.below {P : Value → Prop} {w w' : World} {r c n : Nat} {LL : List (List Nat)} {U : Nat → Int} (h : RLP P w r c n LL U) (hb : Below w.heap.size w w') : RLP P w' r c n LL U := by
  have hr := h.1.lt
  obtain ⟨h1, A, cc, ss, c1, k1, k2, hC, hP⟩ := h
  exact ⟨h1.below hb, A, cc, ss, (hb.cell (p := ⟨r, 1, none⟩) hr).trans c1, k1, k2, hC.below hb, hP⟩
set_option maxRecDepth 100000 in
set_option maxHeartbeats 1000000 in
theorem rwithoutP_ok (P : Value → Prop) (r c n : Nat) (LL : List (List Nat)) (U : Nat → Int) (i : Nat) (w : World) (h : RLP P w r c n LL U) (hi : i < LL.length) (hL : LL.length ≤ 1000) (hl : ∀ l ∈ LL, l.length ≤ 100000) (hcw : c ≤ w.heap.size) :
    Calls Try.prog 57 #[.pointer (some ⟨r, 0, none⟩), .int .i64 (i : Int)] w fun e w' => ∃ vo ss, e = .returned vo ∧ Cls w' w.heap.size c vo (LL.eraseIdx i) ss ∧ (∀ v ∈ ss, P v) ∧ Below w.heap.size w w' := by
  have HL := Lib.hid hl
  obtain ⟨m, hm⟩ : ∃ m, LL.length = m := ⟨_, rfl⟩
  have hL2 : m ≤ 1000 := by omega
  have hi2 : i < m := by omega
  have HM := Lib.hid hm
  have HW := Lib.hid (Below.refl w.heap.size w)
  clear hl hm hL hi
  go_enter Try.func57, Try.ntmps57
  go_wp2_with fail
  go_loopw [5, 6] (fun vo vk wr => ∃ (k : Nat) (A1 : Option Addr) (k1 d1 : Nat) (ss : List Value), vo = .slice A1 k1 d1 ∧ vk = .int .i64 k ∧ k ≤ m ∧ Cls wr w.heap.size c (.slice A1 k1 d1) (butL LL i k) ss ∧ Hid (∀ v ∈ ss, P v) ∧ Below w.heap.size w wr) (fun _ vk _ => m - (intOf vk).toNat)
  case atStart => exact ⟨0, none, 0, 0, [], rfl, rfl, Nat.zero_le _, by unfold butL; simp; exact Cls.nil _ _ _, Lib.hid (fun v hv => by cases hv), HW.out⟩
  case round =>
    obtain ⟨k, A1, k1, d1, ss, rfl, rfl, hk, hC, HP, q⟩ := hrel
    have h1 := h.below q
    obtain ⟨A, cc, s2, c1, e1, e2, hC2, hP2⟩ := h1.2
    have HP2 := Lib.hid hP2
    have HC2 := Lib.hid hC2
    rw [HM.out] at c1 e1
    have hq := q.size
    clear h1 hC2 hP2
    by_cases hlt : k < m
    · have hkm : (k : Int) < (m : Int) := by omega
      obtain ⟨l, hl⟩ : ∃ l, LL[k]? = some l := ⟨_, List.getElem?_eq_getElem (by rw [HM.out]; exact hlt)⟩
      obtain ⟨g, Ai, ci, rfl, f1, f2, f3, f4, _, f6⟩ := HC2.out.row hl
      have HP6 := Lib.hid (HP2.out _ (List.mem_of_getElem? f6))
      clear f6
      by_cases hki : k = i
      · have HB := Lib.hid (show butL LL i (k + 1) = butL LL i k by rw [hki]; exact butL_self (by rw [HM.out]; exact hi2))
        have n1 : ((k : Int) == (i : Int)) = true := by rw [beq_iff_eq]; omega
        have n2 : ((k : Int) != (i : Int)) = false := by simp; omega
        clear hki hl f1 f4
        go_wp2_with fail
        go_roundw
        case rel => exact ⟨k + 1, A1, k1, d1, ss, rfl, by simp, by omega, by rw [HB.out]; exact hC, HP, q⟩
        case measure => simp [intOf]; omega
      · have HB := Lib.hid (butL_step hl hki)
        have n1 : ((k : Int) == (i : Int)) = false := by rw [beq_eq_false_iff_ne]; omega
        have n2 : ((k : Int) != (i : Int)) = true := by simp; omega
        have hbl := butL_len LL i k
        rw [HM.out] at hbl
        have b1 := below_new1 wr (.cells #[.slice Ai l.length ci] 25)
        have hCA := hC.below b1
        have f4A := f4.below b1
        have qA := q.alloc hq (.cells #[.slice Ai l.length ci] 25)
        have hzA := qA.size
        have HBs := Lib.hid hCA.base
        have HKC := Lib.hid (show (wr.alloc (.cells #[.slice Ai l.length ci] 25)).cell? ⟨wr.heap.size, 0, none⟩ = some (.slice Ai l.length ci) from (Blk.new wr 25 #[.slice Ai l.length ci]).cell 0)
        have FIN := Lib.hid (show ∀ (v' : Value) (w3 : World), Cls w3 w.heap.size c v' (butL LL i k ++ [l]) (ss ++ [.slice Ai l.length ci]) → (wr.alloc (.cells #[.slice Ai l.length ci] 25)).grownBy w3 (Value.slice A1 k1 d1).ownBlock → ∃ A2 k2 d2, v' = .slice A2 k2 d2 ∧ Cls w3 w.heap.size c (.slice A2 k2 d2) (butL LL i (k + 1)) (ss ++ [.slice Ai l.length ci]) ∧ Below w.heap.size w w3 from fun v' w3 t1 t2 => by
          obtain ⟨A2, d2, rfl, _⟩ := owns_slice t1.1
          exact ⟨A2, _, d2, rfl, by rw [HB.out]; exact t1, qA.grown t2 hzA HBs.out⟩)
        have HP7 := Lib.hid (show ∀ v ∈ ss ++ [.slice Ai l.length ci], P v from fun v hv => by
          rcases List.mem_append.1 hv with hv | hv
          · exact HP.out v hv
          · rw [List.mem_singleton.1 hv]; exact HP6.out)
        generalize l.length = ql at *
        clear hki hl hC f4 b1 qA
        go_wp2_with (at_builtin; refine wpList_append_row rfl _ _ rfl w.heap.size c (.slice A1 k1 d1) (.slice Ai ql ci) _ ss l wr.heap.size rfl hCA rfl HKC.out f4A (by omega) hzA ?_; intro v' w3 t1 t2; obtain ⟨A2, k2, d2, rfl, t3, t4⟩ := FIN.out v' w3 t1 t2; clear t1 t2)
        go_roundw
        case rel => exact ⟨k + 1, A2, k2, d2, _, rfl, by simp, by omega, t3, HP7, t4⟩
        case measure => simp [intOf]; omega
    · obtain rfl : k = m := by omega
      have HB := Lib.hid (show butL LL i k = LL.eraseIdx i by rw [← HM.out]; exact butL_all)
      have HC := Lib.hid hC
      clear hC
      go_wp2_with fail
      go_ret
      exact ⟨_, ss, rfl, by rw [← HB.out]; exact HC.out, HP.out, q⟩
theorem rwithout_ok (r c n : Nat) (LL : List (List Nat)) (U : Nat → Int) (i : Nat) (w : World) (h : RL w r c n LL U) (hi : i < LL.length) (hL : LL.length ≤ 1000) (hl : ∀ l ∈ LL, l.length ≤ 100000) (hcw : c ≤ w.heap.size) :
    Calls Try.prog 57 #[.pointer (some ⟨r, 0, none⟩), .int .i64 (i : Int)] w fun e w' => ∃ vo ss, e = .returned vo ∧ Cls w' w.heap.size c vo (LL.eraseIdx i) ss ∧ Below w.heap.size w w' :=
  (rwithoutP_ok _ r c n LL U i w h.any hi hL hl hcw).mono fun e w' ⟨vo, ss, h1, h2, _, h3⟩ => ⟨vo, ss, h1, h2, h3⟩
/-- the least of the first ones -/
def MinP (U : Nat → Int) (l : List Nat) (k m : Nat) : Prop := IsMin U (l.take k) m
theorem minP_step {U : Nat → Int} {l : List Nat} {k m y : Nat} (h : MinP U l k m) (hy : l[k]? = some y) : (U y < U m ∨ (U y = U m ∧ y < m) → MinP U l (k + 1) y) ∧ (¬ (U y < U m ∨ (U y = U m ∧ y < m)) → MinP U l (k + 1) m) := by
  obtain ⟨hk, e⟩ := List.getElem?_eq_some_iff.1 hy
  unfold MinP at *
  rw [List.take_succ_eq_append_getElem hk, e]
  obtain ⟨h1, h2⟩ := h
  constructor
  · intro hlt
    refine ⟨by simp, fun z hz => ?_⟩
    rcases List.mem_append.1 hz with hz | hz
    · have := h2 z hz
      omega
    · rw [List.mem_singleton.1 hz]
      exact Or.inr ⟨rfl, Nat.le_refl _⟩
  · intro hge
    refine ⟨List.mem_append_left _ h1, fun z hz => ?_⟩
    rcases List.mem_append.1 hz with hz | hz
    · exact h2 z hz
    · rw [List.mem_singleton.1 hz]
      omega
theorem minP_one {U : Nat → Int} {l : List Nat} {y : Nat} (hy : l[0]? = some y) : MinP U l 1 y := by
  cases l with
  | nil => simp at hy
  | cons a l =>
    simp at hy
    subst hy
    refine ⟨by simp, fun z hz => ?_⟩
    simp at hz
    exact Or.inr ⟨by rw [hz], by omega⟩
theorem isMin_one {U : Nat → Int} {l : List Nat} {a b : Nat} (h1 : IsMin U l a) (h2 : IsMin U l b) : a = b := by
  have := h1.2 b h2.1
  have := h2.2 a h1.1
  omega
set_option maxRecDepth 100000 in
set_option maxHeartbeats 2000000 in
theorem rmin_ok (r c n : Nat) (LL : List (List Nat)) (Q : Nat → List Nat) (U : Nat → Int) (x : Nat) (w : World) (h : RL w r c n LL U) (hQ : LQ LL n Q) (hx : x < n) :
    Calls Try.prog 48 #[.pointer (some ⟨r, 0, none⟩), .int .i64 (x : Int)] w fun e w' => ∃ m : Nat, e = .returned (.tuple #[.int .i64 (m : Int), .bool true]) ∧ IsMin U (Q x) m ∧ Below w.heap.size w w' := by
  have x0 := rlist_ok r c n LL Q U x w h hQ hx
  have hn := h.2.1
  have hpos := List.length_pos_of_mem (hQ.mem hx)
  have hab := hQ.abs x hx
  have HLT := Lib.hid (show ∀ y ∈ Q x, y < n from fun y hy => (hab.2.2 y hy).1)
  generalize Q x = l at *
  clear hQ hab
  obtain ⟨q, hq⟩ : ∃ q, l.length = q := ⟨_, rfl⟩
  rw [hq] at hpos
  have HQ := Lib.hid hq
  go_enter Try.func48, Try.ntmps48
  go_wp2_with fail
  refine x0.mono ?_
  rintro e w1 ⟨v, rfl, hr, b1⟩
  clear x0
  obtain ⟨A, cc, rfl, k1, k2, k3⟩ := owns_slice hr
  rw [hq] at k1 k3
  obtain ⟨gl, rfl⟩ := k3 hpos
  obtain ⟨y0, hy0⟩ : ∃ y0, l[0]? = some y0 := ⟨_, List.getElem?_eq_getElem (by omega)⟩
  have c9 := owns_cell hr (k := 0) (v := .int .i64 (y0 : Int)) (by unfold nums; rw [List.getElem?_map, hy0]; rfl)
  rw [hq] at hr
  have HM1 := Lib.hid (minP_one (U := U) hy0)
  have HY0 := Lib.hid (HLT.out y0 (List.mem_of_getElem? hy0))
  have hr' : RowL w1 w.heap.size (.slice (some ⟨gl, 0, none⟩) l.length cc) l := by rw [hq]; exact hr
  rw [hq]
  have hqp : (0 : Int) < (q : Int) := by omega
  have hq0 : ((q : Int) == 0) = false := by simp; omega
  have h1 := h.below b1
  clear k3 hq hy0 h hr
  go_wp2_with fail
  go_loopw [7, 8, 9, 10] (fun vb vk _ _ wr => ∃ k m : Nat, vb = .int .i64 m ∧ vk = .int .i64 k ∧ k ≤ q ∧ m < n ∧ Hid (MinP U l k m) ∧ RL wr r c n LL U ∧ RowL wr w.heap.size (.slice (some ⟨gl, 0, none⟩) l.length cc) l ∧ Below w.heap.size w wr) (fun _ vk _ _ _ => q - (intOf vk).toNat)
  case atStart => exact ⟨1, y0, rfl, rfl, by omega, HY0.out, HM1, h1, hr', b1⟩
  case round =>
    clear h1 hr' b1 c9 HY0 HM1
    obtain ⟨k, m, rfl, rfl, hk, hm, HMk, h1, hr, b1⟩ := hrel
    by_cases hlt : k < q
    · have hkq : (k : Int) < (q : Int) := by omega
      obtain ⟨y, hy⟩ : ∃ y, l[k]? = some y := ⟨_, List.getElem?_eq_getElem (by rw [HQ.out]; exact hlt)⟩
      have hyn := HLT.out y (List.mem_of_getElem? hy)
      have c9 := owns_cell hr (k := k) (v := .int .i64 (y : Int)) (by unfold nums; rw [List.getElem?_map, hy]; rfl)
      obtain ⟨A2, cv, c2, e1, e2, e3, e4⟩ := h1.cellV
      obtain ⟨gv, rfl, _, _⟩ := e3 (by omega)
      have cy := owns_cell e4 (vals_get (z := fun i => U i) hyn)
      have cm := owns_cell e4 (vals_get (z := fun i => U i) hm)
      have hst := minP_step HMk.out hy
      obtain ⟨u, hu⟩ : ∃ u, U y = u := ⟨_, rfl⟩
      obtain ⟨um, hum⟩ : ∃ um, U m = um := ⟨_, rfl⟩
      rw [hu, hum] at hst
      rw [hu] at cy
      rw [hum] at cm
      have HST := Lib.hid hst
      have i1 : (y : Int) < (n : Int) := by omega
      have i2 : (m : Int) < (n : Int) := by omega
      have hn63 : (n : Int) ≤ 1000 := by omega
      clear hst hu hum hy e3 e4
      go_upto_region 8 with fail
      go_quiet (fail)
      have h1 : RL (wr.drewN nq) r c n LL U := h1
      have hr : RowL (wr.drewN nq) w.heap.size (.slice (some ⟨gl, 0, none⟩) l.length cc) l := hr
      have b1 := below_drewN b1 nq
      replace c9 : (wr.drewN nq).cell? ⟨gl, k, none⟩ = some (.int .i64 (y : Int)) := c9
      clear c2 cy cm
      generalize wr.drewN nq = W at *
      by_cases hlt2 : u < um
      · have HN := Lib.hid (HST.out.1 (Or.inl hlt2))
        go_wp2_with fail
        go_roundw
        case rel => exact ⟨k + 1, y, rfl, by simp, by omega, hyn, HN, h1, hr, b1⟩
        case measure => simp [intOf]; omega
      · by_cases heq : u = um
        · have n1 : (u == um) = true := by rw [beq_iff_eq]; exact heq
          by_cases hym : y < m
          · have HN := Lib.hid (HST.out.1 (Or.inr ⟨heq, hym⟩))
            have n2 : (y : Int) < (m : Int) := by omega
            clear heq
            go_wp2_with fail
            go_roundw
            case rel => exact ⟨k + 1, y, rfl, by simp, by omega, hyn, HN, h1, hr, b1⟩
            case measure => simp [intOf]; omega
          · have HN := Lib.hid (HST.out.2 (by omega))
            have n2 : ¬ (y : Int) < (m : Int) := by omega
            clear heq
            go_wp2_with fail
            go_roundw
            case rel => exact ⟨k + 1, m, rfl, by simp, by omega, hm, HN, h1, hr, b1⟩
            case measure => simp [intOf]; omega
        · have n1 : (u == um) = false := by rw [beq_eq_false_iff_ne]; exact heq
          have HN := Lib.hid (HST.out.2 (by omega))
          go_wp2_with fail
          go_roundw
          case rel => exact ⟨k + 1, m, rfl, by simp, by omega, hm, HN, h1, hr, b1⟩
          case measure => simp [intOf]; omega
    · obtain rfl : k = q := by omega
      have HN := Lib.hid (show IsMin U l m by have := HMk.out; unfold MinP at this; rwa [List.take_of_length_le (by rw [HQ.out]; exact Nat.le_refl _)] at this)
      go_wp2_with fail
      go_ret2
      exact ⟨m, rfl, HN.out, b1⟩
end Go.Proofs.Ytgichkjomhnehaa
