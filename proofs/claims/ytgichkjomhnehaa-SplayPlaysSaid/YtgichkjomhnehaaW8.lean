/-
  The way down: Backward over the path, a push at each place.
-/
import Derived.Test.YtgichkjomhnehaaW7
set_option linter.unusedVariables false
set_option linter.unusedSimpArgs false
namespace Go.Proofs.Ytgichkjomhnehaa
open Go.RowKit Go.Shelf

attribute [local go_sem] Oper.semAt_some

/-- downwards -/
def dnl : Nat → List Nat
  | 0 => []
  | k + 1 => k :: dnl k
theorem dnl_len : ∀ m, (dnl m).length = m
  | 0 => rfl
  | m + 1 => by simp [dnl, dnl_len m]
theorem dnl_map (L : List Nat) : ∀ m, m ≤ L.length → (dnl m).map (fun x => L.getD x 0) = (L.take m).reverse
  | 0, _ => by simp [dnl]
  | m + 1, h => by
    rw [List.take_succ_eq_append_getElem (by omega), List.reverse_append]
    simp only [dnl, List.map_cons, dnl_map L m (by omega)]
    rw [List.getD_eq_getElem?_getD, List.getElem?_eq_getElem (by omega)]
    rfl
/-- the states of a row of pushes -/
def pushL (st : Nat → Nd) (l : List Nat) : Nat → Nd := l.foldl pushF st
theorem pushL_snoc (st : Nat → Nd) (l : List Nat) (x : Nat) : pushL st (l ++ [x]) = pushF (pushL st l) x := by simp [pushL]
/-- all kids are places -/
def KB (n : Nat) (st : Nat → Nd) : Prop := ∀ j, (st j).k0 ≤ n ∧ (st j).k1 ≤ n
theorem KB.put {n : Nat} {st : Nat → Nd} (h : KB n st) (i : Nat) {nd : Nd} (h0 : nd.k0 ≤ n) (h1 : nd.k1 ≤ n) : KB n (put st i nd) := fun j => by
  by_cases e : j = i
  · rw [e, put_at]; exact ⟨h0, h1⟩
  · rw [put_ne _ _ e]; exact h j
theorem KB.tog {n : Nat} {st : Nat → Nd} (h : KB n st) (k : Nat) : KB n (togF st k) := by
  unfold togF
  split
  · exact h
  · exact h.put k (h k).1 (h k).2
theorem KB.push {n : Nat} {st : Nat → Nd} (h : KB n st) (i : Nat) : KB n (pushF st i) := by
  unfold pushF
  split
  · exact ((h.put i (h i).2 (h i).1).tog _).tog _
  · exact h
theorem KB.pushL {n : Nat} {st : Nat → Nd} (h : KB n st) : ∀ l, KB n (pushL st l) := by
  intro l
  induction l generalizing st with
  | nil => exact h
  | cons x l ih => exact ih (h.push x)
set_option maxRecDepth 100000 in
set_option maxHeartbeats 400000 in
theorem back1_in (l Bp g m c : Nat) (L : List Nat) (hm : L.length = m) (hm0 : m ≤ 65536) (J Jx : List Nat → World → Prop)
    (hY : ∀ pre x W, J pre W → pre.length < m → YieldAt Fence.wide 7 Try.prog l #[.int .i64 (x : Nat), .int .i64 (L.getD x 0 : Nat)] W fun e W' =>
      (e = .returned (.bool true) ∧ J (pre ++ [x]) W' ∧ KpB [Bp, g] W W') ∨ (e = .returned (.bool false) ∧ Jx (pre ++ [x]) W'))
    (W : World) (hBp : Blk W Bp 25 #[.slice (some ⟨g, 0, none⟩) m c]) (hmc : m ≤ c) (hR : ∃ cs, Blk W g 3 cs ∧ ∀ i, i < m → cs[i]? = some (Value.int .i64 (L.getD i 0 : Nat))) (h0 : J [] W) :
    CallsIn Fence.wide 8 Try.prog 70 #[.func (.yield l) #[] #[], .pointer (some ⟨Bp, 0, none⟩)] W fun e W' => (∃ v, e = .returned v) ∧
      ((∃ ys, ys = dnl m ∧ J ys W') ∨ (∃ pre, True ∧ Jx pre W')) := by
  have cp := hBp.cell 0
  simp at cp
  refine callsIn_of_wp Try.func70 rfl trivial ?_ rfl
  simp only [Try.ntmps70, List.size_toArray, List.length_cons, List.length_nil, Nat.reduceAdd, Nat.reduceSub, Array.replicate_succ, Array.replicate_zero, List.push_toArray, List.append_toArray, List.nil_append, List.cons_append]
  gi_wp2
  clear cp
  gi_loopg [3] m (fun k p wr => ∃ (pre : List Nat), p = .int .i64 ((k : Int) - 1) ∧ k ≤ m ∧ pre ++ dnl k = dnl m ∧ J pre wr ∧ Blk wr Bp 25 #[.slice (some ⟨g, 0, none⟩) m c] ∧ ∃ cs, Blk wr g 3 cs ∧ ∀ i, i < m → cs[i]? = some (Value.int .i64 (L.getD i 0 : Nat)))
  case atStart => exact ⟨[], rfl, Nat.le_refl _, rfl, h0, hBp, hR⟩
  case round =>
    clear hBp hR
    obtain ⟨pre, rfl, hk, hpr, hJ, kp, cs, kg, hcs⟩ := hrel
    rcases gk with _ | k
    · have HP := Lib.hid hpr
      clear hpr
      gi_wp2
      go_end0
      exact ⟨⟨_, rfl⟩, .inl ⟨pre, by have := HP.out; simpa [dnl] using this, hJ⟩⟩
    · have hlen : pre.length < m := by
        have := congrArg List.length hpr
        rw [List.length_append, dnl_len, dnl_len] at this
        omega
      obtain ⟨fn, tmps, assign, body, hy, hY2⟩ := hY pre k wr hJ hlen
      have HP := Lib.hid (show (pre ++ [k]) ++ dnl k = dnl m by rw [← hpr]; simp [dnl])
      have cp := kp.cell 0
      have cg := (kg.cell k).trans (hcs k (by omega))
      have hcs := Lib.hid hcs
      simp at cp
      have e1 : ((k + 1 : Nat) : Int) - 1 = (k : Int) := by omega
      rw [e1]
      have hkm : (k : Int) < (m : Int) := by omega
      have hk0 : (0 : Int) ≤ (k : Int) := by omega
      obtain ⟨y, hy0⟩ : ∃ y, L.getD k 0 = y := ⟨_, rfl⟩
      rw [hy0] at hy cg
      clear hpr e1 hy0
      gi_wp2
      refine hY2.mono ?_
      rintro e W3 (⟨rfl, hJ3, hkp⟩ | ⟨rfl, hJx3⟩)
      · have kp3 : Blk W3 Bp 25 #[.slice (some ⟨g, 0, none⟩) m c] := (hkp Bp (by simp)).trans kp
        have kg3 : Blk W3 g 3 cs := (hkp g (by simp)).trans kg
        clear hkp
        gi_wp2
        go_roundg k
        case measure => omega
        case rel => exact ⟨pre ++ [k], rfl, by omega, HP.out, hJ3, kp3, cs, kg3, hcs.out⟩
      · gi_wp2
        refine bodyPost_ret (results_none rfl _ _ _) rfl ?_
        exact ⟨⟨_, rfl⟩, .inr ⟨pre ++ [k], trivial, hJx3⟩⟩
end Go.Proofs.Ytgichkjomhnehaa
