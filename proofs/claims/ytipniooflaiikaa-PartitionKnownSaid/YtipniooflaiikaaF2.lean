/-
  The references: Classes.
-/
import Derived.Test.YtipniooflaiikaaF1
set_option linter.unusedVariables false
set_option linter.unusedSimpArgs false
namespace Go.Proofs.Ytipniooflaiikaa
open Go.RowKit Go.Shelf

theorem RowL.mono {w : World} {B B' : Nat} {v : Value} {l : List Nat} (h : RowL w B v l) (hB : B' ≤ B) : RowL w B' v l := by
  refine ⟨h.1, h.2.imp id ?_⟩
  rintro ⟨g, cap, cur, hv, hg, r⟩
  exact ⟨g, cap, cur, hv, Nat.le_trans hB hg, r⟩
theorem RowL.base {w : World} {B : Nat} {v : Value} {l : List Nat} (h : RowL w B v l) : ∀ k, v.ownBlock = some k → B ≤ k := fun k hk => (World.ownsRow.lt h k hk).1
theorem Cls.base {w : World} {B : Nat} {vo : Value} {ls : List (List Nat)} {ss : List Value} (h : Cls w B vo ls ss) : ∀ k, vo.ownBlock = some k → B ≤ k := fun k hk => (World.ownsRow.lt h.1 k hk).1
/-- append of one number to a row -/
theorem wpList_append_num {ops : Array Oper} {rest : List Oper} {o : Oper} {a : Act} {w : World} {Q : Exit → Act → World → Prop} (hgd : o.guard = none) (s x : Operand) (ho : o.op = .call { callee := .builtin .append, args := #[s, x], argTypes := #[22, 22] })
    (B : Nat) (v : Value) (l : List Nat) (y g : Nat) (hs : a.eval s = v) (hR : RowL w B v l) (hx : a.eval x = .slice (some ⟨g, 0, none⟩) 1 1) (hc : w.cell? ⟨g, 0, none⟩ = some (.int .i64 (y : Int)))
    (hn : l.length ≤ 100000) (hB : B ≤ w.heap.size)
    (h : ∀ v' w', RowL w' B v' (l ++ [y]) → w.grownBy w' v.ownBlock → wpList Try.prog ops Q rest (a.put o.dst v') w') :
    wpList Try.prog ops Q (o :: rest) a w := by
  obtain ⟨i0, hi, hz0, hz1, hz2⟩ := info_parts info3
  refine wpList_append_own w hgd s x 22 ho B 3 i0 (.int .i64 0) 1 8 Try.underlying22 hi hz0 hz1 hz2 rfl (by decide) v l.length (nums l) hs hR ⟨g, 0, none⟩ 1 1 [.int .i64 (y : Int)] hx rfl ?_ ?_ (by simp only [maxLen]; omega) (by omega) hB ?_
  · intro j u hu
    rcases j with _ | j
    · simp at hu
      subst hu
      exact hc
    · simp at hu
  · intro u hu
    simp at hu
    subst hu
    rfl
  · intro v' w' h2 h3 _
    refine h v' w' ?_ h3
    have e : nums (l ++ [y]) = nums l ++ [.int .i64 (y : Int)] := by simp [nums]
    unfold RowL
    rw [e, List.length_append]
    exact h2
/-- the first elements of the classes, below i -/
def heads (a : Nat → Nat) (i : Nat) : List Nat := mem (fun j => decide (a j = j)) i
/-- the classes -/
def cls (a : Nat → Nat) (n i : Nat) : List (List Nat) := (heads a i).map fun r => mem (fun j => decide (a j = r)) n
theorem cls_yes {a : Nat → Nat} {n i : Nat} (h : a i = i) : cls a n (i + 1) = cls a n i ++ [mem (fun j => decide (a j = i)) n] := by
  unfold cls heads
  rw [mem_succ, if_pos (by simpa using h)]
  simp
theorem cls_no {a : Nat → Nat} {n i : Nat} (h : a i ≠ i) : cls a n (i + 1) = cls a n i := by
  unfold cls heads
  rw [mem_succ, if_neg (by simpa using h), List.append_nil]
theorem cls_len (a : Nat → Nat) (n i : Nat) : (cls a n i).length ≤ i := by
  unfold cls
  rw [List.length_map]
  exact mem_len _ _
/-- what Classes returns -/
def ClassesOk (w : World) (n : Nat) (z : Nat → Int) (e : Ending) (w' : World) : Prop :=
  ((¬ CanZ z n ∧ e = .returned (.tuple #[.slice none 0 0, .int .i64 2])) ∨
  (∃ (a : Nat → Nat) (vo : Value) (ss : List Value), Can a n ∧ (∀ i, i < n → z i = (a i : Int)) ∧ e = .returned (.tuple #[vo, .int .i64 0]) ∧ Cls w' w.heap.size vo (cls a n n) ss)) ∧ Below w.heap.size w w'
set_option maxRecDepth 100000 in
set_option maxHeartbeats 4000000 in
theorem rclasses_ok (n c : Nat) (A : Option Addr) (z : Nat → Int) (w : World) (ha : ArgI .i64 w A n c z) (hn : n ≤ 1000) :
    Calls Try.prog 34 #[.slice A n c] w fun e w' => ClassesOk w n z e w' := by
  have x0 := rcheck_ok n c A z w ha hn
  have hn63 := ha.2.1
  have hnc := ha.1
  go_enter Try.func34, Try.ntmps34
  go_wp2_with fail
  refine x0.mono ?_
  rintro e w0 ⟨⟨rfl, h1⟩ | ⟨rfl, h1⟩, v0⟩
  case inr =>
    have H1 := Lib.hid h1
    clear h1
    go_wp2_with fail
    go_ret2
    exact ⟨Or.inl ⟨H1.out, rfl⟩, v0⟩
  obtain ⟨a, hca, ea⟩ := h1.nat
  have HCA := Lib.hid hca
  have HE := Lib.hid ea
  clear h1 hca ea x0
  go_wp2_with fail
  go_loopw [4, 5, 6, 7] (fun vo vi _ _ wr => ∃ (i : Nat) (ss : List Value), vi = .int .i64 i ∧ i ≤ n ∧ Cls wr w.heap.size vo (cls a n i) ss ∧ Below w.heap.size w wr) (fun _ vi _ _ _ => n - (intOf vi).toNat)
  case atStart => exact ⟨0, [], rfl, Nat.zero_le _, Cls.nil _ _, v0⟩
  case round =>
    clear v0
    obtain ⟨i, ss, rfl, hi, hC, q⟩ := hrel
    have hq := q.size
    by_cases hlt : i < n
    · have hin : (i : Int) < (n : Int) := by omega
      have ha1 := ha.below q
      obtain ⟨g, o, rfl, hg, hc⟩ := ha1.2.2.1 (by omega)
      have ci := hc i hlt
      rw [HE.out i hlt] at ci
      obtain ⟨l, hl⟩ : ∃ l, a i = l := ⟨_, rfl⟩
      rw [hl] at ci
      by_cases hli : l = i
      · rw [hli] at hl ci
        have HY := Lib.hid (cls_yes (n := n) hl)
        have HM := Lib.hid (show mem (fun j => decide (a j = i)) i = [] from mem_none fun j hj => by
          have := (HCA.out j (by omega)).1
          simp; omega)
        clear hl hli hc ha1
        go_wp2_with fail
        clear ci
        obtain ⟨w1, e1⟩ : ∃ w1 : World, w1 = wr := ⟨_, rfl⟩
        subst e1
        go_loopw [6, 7] (fun vu vj wr => ∃ (j k : Nat) (A1 : Option Addr) (d1 : Nat), vu = .slice A1 k d1 ∧ vj = .int .i64 j ∧ i ≤ j ∧ j ≤ n ∧ RowL wr w1.heap.size (.slice A1 k d1) (mem (fun t => decide (a t = i)) j) ∧ Below w1.heap.size w1 wr) (fun _ vj _ => n - (intOf vj).toNat)
        case atStart => exact ⟨i, 0, none, 0, rfl, rfl, Nat.le_refl _, by omega, by rw [HM.out]; exact RowL.nil _ _, Below.refl _ _⟩
        case round =>
          obtain ⟨j, k, A1, d1, rfl, rfl, hij, hj, hR, q2⟩ := hrel
          have hq2 := q2.size
          by_cases hlt2 : j < n
          · have hjn : (j : Int) < (n : Int) := by omega
            have ha2 := (ha.below q).below q2
            obtain ⟨g', o', e', hg', hc'⟩ := ha2.2.2.1 (by omega)
            cases e'
            have cj := hc' j hlt2
            rw [HE.out j hlt2] at cj
            obtain ⟨x, hx⟩ : ∃ x, a j = x := ⟨_, rfl⟩
            rw [hx] at cj
            have hms := mem_succ (fun t => decide (a t = i)) j
            have hml := mem_len (fun t => decide (a t = i)) j
            by_cases hxi : x = i
            · rw [if_pos (by simp [hx, hxi])] at hms
              have HMS := Lib.hid hms
              have hRA : RowL (wr.alloc (.cells #[.int .i64 (j : Int)] 3)) w1.heap.size (.slice A1 k d1) (mem (fun t => decide (a t = i)) j) := hR.below (below_new1 wr _)
              have kb := Blk.new wr 3 #[.int .i64 (j : Int)]
              have kc : (wr.alloc (.cells #[.int .i64 (j : Int)] 3)).cell? ⟨wr.heap.size, 0, none⟩ = some (.int .i64 (j : Int)) := kb.cell 0
              have HKC := Lib.hid kc
              have hqA := q2.alloc hq2 (.cells #[.int .i64 (j : Int)] 3)
              have hzA : w1.heap.size ≤ (wr.alloc (.cells #[.int .i64 (j : Int)] 3)).heap.size := by simp; omega
              have HB := Lib.hid hR.base
              have fin : ∀ (v' : Value) (w3 : World), RowL w3 w1.heap.size v' (mem (fun t => decide (a t = i)) j ++ [j]) → (wr.alloc (.cells #[.int .i64 (j : Int)] 3)).grownBy w3 (Value.slice A1 k d1).ownBlock → ∃ A2 k2 d2, v' = .slice A2 k2 d2 ∧ RowL w3 w1.heap.size (.slice A2 k2 d2) (mem (fun t => decide (a t = i)) (j + 1)) ∧ Below w1.heap.size w1 w3 := fun v' w3 h1 h2 => by
                rw [← HMS.out] at h1
                obtain ⟨A2, d2, e2, _⟩ := h1.arg (fun x hx => by have := mem_lt hx; omega)
                subst e2
                exact ⟨A2, _, d2, rfl, h1, hqA.grown h2 hzA HB.out⟩
              have FIN := Lib.hid fin
              subst hxi
              clear hx hms ha2 hc' hg' fin kc kb hR
              go_wp2_with (at_builtin; refine wpList_append_num rfl _ _ rfl w1.heap.size (.slice A1 k d1) _ j wr.heap.size rfl hRA rfl HKC.out (by omega) hzA ?_; intro v' w3 h1 h2; obtain ⟨A2, k2, d2, rfl, hR2, q3⟩ := FIN.out v' w3 h1 h2; clear h1 h2)
              go_roundw
              case rel => exact ⟨j + 1, k2, A2, d2, rfl, by simp, by omega, by omega, hR2, q3⟩
              case measure => simp [intOf]; omega
            · rw [if_neg (by simp [hx, hxi]), List.append_nil] at hms
              have HMS := Lib.hid hms
              have hne : ((x : Int) == (i : Int)) = false := by simp; omega
              have hne2 : ¬ (x : Int) = (i : Int) := by omega
              clear hx hms ha2 hc' hg'
              go_wp2_with fail
              go_roundw
              case rel => exact ⟨j + 1, k, A1, d1, rfl, by simp, by omega, by omega, by rw [HMS.out]; exact hR, q2⟩
              case measure => simp [intOf]; omega
          · obtain rfl : j = n := by omega
            have hjn : ¬ (j : Int) < (j : Int) := by omega
            have hC2 := (hC.below q2).below (below_new1 wr (.cells #[.slice A1 k d1] 22))
            have hR2 := (hR.mono (B' := w.heap.size) hq).below (below_new1 wr (.cells #[.slice A1 k d1] 22))
            have qA := (below_go q (Nat.le_refl _) (q2)).alloc (by have := below_go q (Nat.le_refl _) q2; exact this.size) (.cells #[.slice A1 k d1] 22)
            have hzA := qA.size
            have HB := Lib.hid hC2.base
            have HKC := Lib.hid (show (wr.alloc (.cells #[.slice A1 k d1] 22)).cell? ⟨wr.heap.size, 0, none⟩ = some (.slice A1 k d1) from (Blk.new wr 22 #[.slice A1 k d1]).cell 0)
            have hlen := cls_len a j i
            clear hC hR q q2
            go_wp2_with (at_builtin; refine wpList_append_row rfl _ _ rfl w.heap.size _ (.slice A1 k d1) _ ss _ wr.heap.size rfl hC2 rfl HKC.out rfl hR2 (by omega) hzA ?_; intro v' w3 h1 h2; rw [← HY.out] at h1; have q3 := qA.grown h2 hzA HB.out; clear h2)
            go_roundw
            case rel => exact ⟨i + 1, _, by simp, by omega, h1, q3⟩
            case measure => simp [intOf]; omega
      · have HY := Lib.hid (cls_no (n := n) (show a i ≠ i by rw [hl]; exact hli))
        have hne : ((l : Int) == (i : Int)) = false := by simp; omega
        have hne2 : ¬ (l : Int) = (i : Int) := by omega
        clear hl hc ha1
        go_wp2_with fail
        go_roundw
        case rel => exact ⟨i + 1, ss, by simp, by omega, by rw [HY.out]; exact hC, q⟩
        case measure => simp [intOf]; omega
    · obtain rfl : i = n := by omega
      have HC := Lib.hid hC
      clear hC
      go_wp2_with fail
      go_ret2
      exact ⟨Or.inr ⟨a, _, ss, HCA.out, HE.out, rfl, HC.out⟩, q⟩
end Go.Proofs.Ytipniooflaiikaa
