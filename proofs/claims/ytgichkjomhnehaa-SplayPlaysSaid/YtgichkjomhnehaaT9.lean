/-
  The document's sequences: Reverse.
-/
import Derived.Test.YtgichkjomhnehaaT8
set_option linter.unusedVariables false
set_option linter.unusedSectionVars false
set_option linter.unusedSimpArgs false
namespace Go.Proofs.Ytgichkjomhnehaa
open Go.RowKit Go.Shelf

/-- other lists -/
theorem RL.setL {w : World} {r c n B : Nat} {LL LL' : List (List Nat)} {U : Nat → Int} {vo : Value} {ss : List Value} (h : RL w r c n LL U) (hC : Cls w B c vo LL' ss) (hB : c ≤ B) :
    RL (w.setCell ⟨r, 1, none⟩ vo) r c n LL' U ∧ Turns (fun k => c ≤ k) w (w.setCell ⟨r, 1, none⟩ vo) ∧ K55 w (w.setCell ⟨r, 1, none⟩ vo) := by
  obtain ⟨h0, hn, hf, vL, s0, vV, k1, k2, k3⟩ := h
  have gs := grownBy_set w ⟨r, 1, none⟩ vo
  have key : ∀ {t : TypeId} {B' s' n' : Nat} {v : Value} {xs : List Value}, w.ownsRow B' t s' v n' xs → t ≠ 86 → v.ownBlock = none ∨ v.ownBlock ≠ some r := fun {t B' s' n' v xs} hr ht => by
    rcases hr.2 with ⟨e, _⟩ | ⟨g, cap, cur, e, _, hh, _⟩
    · left; rw [e]; rfl
    · right
      rw [e]
      intro e2
      have e2 : g = r := Option.some.inj e2
      exact k1.ne_ (t' := t) (cs' := cur) (g' := g) hh (fun e3 => ht e3.symm) e2.symm
  refine ⟨⟨h0, hn, hf, vo, ss, vV, ?_, ?_, World.ownsRow.kept k3 gs (key k3 (by decide))⟩, (Turns.refl _ w).setCell (.inr h0) _, fun bx cs hb => Blk.far hb (p := ⟨r, 1, none⟩) (fun e => Blk.ne_ hb k1 (by decide) e) _⟩
  · have := k1.set_ 1 vo
    simpa using this
  · exact (hC.mono hB).kept gs (key hC.1 (by decide)) (fun v l hr => key hr (by decide))
theorem frozen_of {w : World} {r c n : Nat} {LL : List (List Nat)} {U : Nat → Int} (h : RL w r c n LL U) (i : Nat) : w.frozen? ⟨r, i, none⟩ = false := by
  obtain ⟨h0, hn, hf, vL, s0, vV, k1, k2, k3⟩ := h
  exact k1.frozen i
/-- what a new list of the document's does -/
def NewL (r c n : Nat) (LL : List (List Nat)) (U : Nat → Int) (w w' : World) : Prop := RL w' r c n LL U ∧ Turns (fun k => c ≤ k) w w'
set_option maxRecDepth 100000 in
set_option maxHeartbeats 2000000 in
theorem rreverse_ok (r c n : Nat) (LL : List (List Nat)) (Q : Nat → List Nat) (U : Nat → Int) (x : Nat) (w : World) (h : RL w r c n LL U) (hQ : LQ LL n Q) (hx : x < n) :
    Calls Try.prog 35 #[.pointer (some ⟨r, 0, none⟩), .int .i64 (x : Int)] w fun e w' => ∃ LL', e = .returned (.int .i64 0) ∧ LQ LL' n (revQ Q x) ∧ RL w' r c n LL' U ∧ Turns (fun k => c ≤ k) w w' ∧ K55 w w' := by
  have xc := rchk_in h hx
  unfold RChk at xc
  have x1 := rfindQ r c n LL Q U x w h hQ hx
  have hn := h.2.1
  have hcw : c ≤ w.heap.size := by have := h.1; have := h.lt; omega
  obtain ⟨A, cc, c1, k1, k2, _, ss, hC⟩ := h.cellL
  have HC := Lib.hid hC
  have HQ := Lib.hid hQ
  have hLL := hQ.len
  have HSM := Lib.hid (show ∀ l ∈ LL, l.length ≤ 1000 ∧ ∀ x ∈ l, x < n from fun l hl => by have := hQ.small (by omega) hl; exact ⟨by omega, this.2⟩)
  obtain ⟨m, hm⟩ : ∃ m, LL.length = m := ⟨_, rfl⟩
  rw [hm] at c1 k1 hLL
  have HM := Lib.hid hm
  clear hm hC hQ
  go_enter Try.func35, Try.ntmps35
  go_wp2_with fail
  refine xc.mono ?_
  rintro e w' ⟨rfl, rfl⟩
  go_wp2_with fail
  refine x1.mono ?_
  rintro e w' ⟨i, k, rfl, hi, rfl⟩
  obtain ⟨hi1, hi2⟩ := hi.list HQ.out
  have him : i < m := by rw [← HM.out]; exact (List.getElem?_eq_some_iff.1 hi1).1
  have him2 : (i : Int) < (m : Int) := by omega
  obtain ⟨g, Ai, ci, rfl, e1, e2, e3, e4, e5, _⟩ := HC.out.row hi1
  have HE := Lib.hid e5
  have HE4 := Lib.hid e4
  have HR := Lib.hid (HQ.out.rev hi)
  have hql := (HSM.out _ (List.mem_of_getElem? hi1)).1
  have HLT := Lib.hid (HSM.out _ (List.mem_of_getElem? hi1)).2
  generalize Q x = l at *
  obtain ⟨q, hq⟩ : ∃ q, l.length = q := ⟨_, rfl⟩
  rw [hq] at e1 e2 hql
  have HQL := Lib.hid hq
  have HW := Lib.hid (Below.refl w.heap.size w)
  clear hq e5 e4 hi hi1 hi2 xc x1
  go_wp2_with fail
  go_loopg [9, 10] q (fun j vo vk wr => ∃ (A1 : Option Addr) (n1 d1 : Nat), vo = .slice A1 n1 d1 ∧ vk = .int .i64 ((j : Int) - 1) ∧ j ≤ q ∧ RowL wr w.heap.size (.slice A1 n1 d1) ((l.drop j).reverse) ∧ Below w.heap.size w wr)
  case atStart => exact ⟨none, 0, 0, rfl, rfl, Nat.le_refl _, by rw [List.drop_eq_nil_of_le (by rw [HQL.out]; exact Nat.le_refl _)]; exact RowL.nil _ _, HW.out⟩
  case round =>
    obtain ⟨A1, n1, d1, rfl, rfl, hj, hr, q1⟩ := hrel
    have hq1 := q1.size
    have hcr : c ≤ wr.heap.size := by omega
    rcases gk with _ | j
    · have h1 := h.below q1
      have xw := rwithout_ok r c n LL U i wr h1 (by rw [HM.out]; exact him) (by rw [HM.out]; omega) (fun l hl => by have := (HSM.out l hl).1; omega) hcr
      rw [List.drop_zero] at hr
      have HRR := Lib.hid (hr.mono hcw)
      have HH1 := Lib.hid h1
      clear hr h1
      go_wp2_with fail
      refine xw.mono ?_
      rintro e w2 ⟨vo, s2, rfl, hC2, q2⟩
      have h2 := HH1.out.below q2
      have q3 := below_end q1 hq1 q2
      have hq2 := q2.size
      obtain ⟨A2, d2, rfl, _⟩ := owns_slice hC2.1
      have b3 := below_new1 w2 (.cells #[.slice A1 n1 d1] 25)
      have hC3 := hC2.below b3
      have hr3 := (HRR.out.below q2).below b3
      have h3 := h2.below b3
      have HBs := Lib.hid hC3.base
      have HKC := Lib.hid (show (w2.alloc (.cells #[.slice A1 n1 d1] 25)).cell? ⟨w2.heap.size, 0, none⟩ = some (.slice A1 n1 d1) from (Blk.new w2 25 #[.slice A1 n1 d1]).cell 0)
      have hzA : wr.heap.size ≤ (w2.alloc (.cells #[.slice A1 n1 d1] 25)).heap.size := by simp; omega
      have hel : (LL.eraseIdx i).length ≤ 100000 := by
        have := (List.eraseIdx_sublist LL i).length_le
        rw [HM.out] at this
        omega
      have FIN := Lib.hid (show ∀ (v' : Value) (w4 : World), Cls w4 wr.heap.size c v' (LL.eraseIdx i ++ [l.reverse]) (s2 ++ [.slice A1 n1 d1]) → (w2.alloc (.cells #[.slice A1 n1 d1] 25)).grownBy w4 (Value.slice A2 (LL.eraseIdx i).length d2).ownBlock → ∃ A3 k3 d3, v' = .slice A3 k3 d3 ∧ w4.frozen? ⟨r, 1, none⟩ = false ∧ (∃ old, w4.cell? ⟨r, 1, none⟩ = some old) ∧ RL (w4.setCell ⟨r, 1, none⟩ (.slice A3 k3 d3)) r c n (LL.eraseIdx i ++ [l.reverse]) U ∧ Turns (fun k => c ≤ k) w (w4.setCell ⟨r, 1, none⟩ (.slice A3 k3 d3)) ∧ K55 w (w4.setCell ⟨r, 1, none⟩ (.slice A3 k3 d3)) from fun v' w4 t1 t2 => by
        obtain ⟨A3, d3, rfl, _⟩ := owns_slice t1.1
        have q4 := (Below.refl wr.heap.size _).grown t2 hzA HBs.out
        have h4 : RL w4 r c n LL U := by
          have e := (q3.trans (b3.mono (by omega))).trans (q4.mono (by omega))
          exact h.below e
        obtain ⟨t3, t4, t6⟩ := h4.setL t1 hcr
        obtain ⟨_, _, f1, _⟩ := h4.cellL
        exact ⟨A3, _, d3, rfl, frozen_of h4 1, ⟨_, f1⟩, t3, (Turns.of_below ((q3.trans (b3.mono (by omega))).trans (q4.mono (by omega))) _).trans t4, (K55.of_below ((q3.trans (b3.mono (by omega))).trans (q4.mono (by omega)))).trans t6⟩)
      obtain ⟨me, hme⟩ : ∃ me, (LL.eraseIdx i).length = me := ⟨_, rfl⟩
      rw [hme] at hC3 FIN hel ⊢
      have HME := Lib.hid hme
      clear hme
      clear hC2 b3 h2 h3 xw
      go_wp2_with (at_builtin; refine wpList_append_row rfl _ _ rfl wr.heap.size c (.slice A2 me d2) (.slice A1 n1 d1) _ s2 _ w2.heap.size rfl hC3 rfl HKC.out hr3 (by rw [HME.out]; exact hel) hzA ?_; intro v' w4 t1 t2; obtain ⟨A3, k3, d3, rfl, t3, ⟨old, t4⟩, t5⟩ := FIN.out v' w4 t1 t2; clear t1 t2)
      go_ret
      exact ⟨_, rfl, HR.out, t5⟩
    · have hjl : l[j]? = some (l[j]'(by rw [HQL.out]; omega)) := List.getElem?_eq_getElem _
      obtain ⟨y, hy⟩ : ∃ y, l[j]? = some y := ⟨_, hjl⟩
      obtain ⟨gi, rfl, c9⟩ := HE.out j y hy
      have c9w := (q1.cell (p := ⟨gi, j, none⟩) (cell?_lt c9)).trans c9
      have HD := Lib.hid (show (l.drop j).reverse = (l.drop (j + 1)).reverse ++ [y] by
        rw [List.drop_eq_getElem_cons (by rw [HQL.out]; omega), List.reverse_cons, (List.getElem?_eq_some_iff.1 hy).2])
      have e8 : ((j + 1 : Nat) : Int) - 1 = (j : Int) := by omega
      rw [e8]
      have hjq : (j : Int) < (q : Int) := by omega
      have hyn := HLT.out y (List.mem_of_getElem? hy)
      have hrA := hr.below (below_new1 wr (.cells #[.int .i64 (y : Int)] 3))
      have HKC := Lib.hid (show (wr.alloc (.cells #[.int .i64 (y : Int)] 3)).cell? ⟨wr.heap.size, 0, none⟩ = some (.int .i64 (y : Int)) from (Blk.new wr 3 #[.int .i64 (y : Int)]).cell 0)
      have qA := q1.alloc hq1 (.cells #[.int .i64 (y : Int)] 3)
      have hzA : w.heap.size ≤ (wr.alloc (.cells #[.int .i64 (y : Int)] 3)).heap.size := by simp; omega
      have hdl : ((l.drop (j + 1)).reverse).length ≤ 100000 := by rw [List.length_reverse, List.length_drop, HQL.out]; omega
      have HDL := Lib.hid hdl
      have HBs := Lib.hid hr.base
      have FIN := Lib.hid (show ∀ (v' : Value) (w3 : World), RowL w3 w.heap.size v' ((l.drop (j + 1)).reverse ++ [y]) → (wr.alloc (.cells #[.int .i64 (y : Int)] 3)).grownBy w3 (Value.slice A1 n1 d1).ownBlock → ∃ A2 n2 d2, v' = .slice A2 n2 d2 ∧ RowL w3 w.heap.size (.slice A2 n2 d2) ((l.drop j).reverse) ∧ Below w.heap.size w w3 from fun v' w3 t1 t2 => by
        rw [← HD.out] at t1
        obtain ⟨A2, d2, rfl⟩ := t1.slice
        exact ⟨A2, _, d2, rfl, t1, qA.grown t2 hzA HBs.out⟩)
      clear hr hjl hy hdl qA c9
      go_wp2_with (at_builtin; refine wpList_append_num rfl _ _ rfl w.heap.size (.slice A1 n1 d1) _ y wr.heap.size rfl hrA rfl HKC.out HDL.out hzA ?_; intro v' w3 t1 t2; obtain ⟨A2, n2, d2, rfl, t3, t4⟩ := FIN.out v' w3 t1 t2; clear t1 t2)
      go_roundg j
      case measure => omega
      case rel => exact ⟨A2, n2, d2, rfl, rfl, by omega, t3, t4⟩
end Go.Proofs.Ytgichkjomhnehaa
