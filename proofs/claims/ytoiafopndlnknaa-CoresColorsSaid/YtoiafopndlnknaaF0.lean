/-
  Backward over a list; slices.Index of false; greedy colors.
-/
import Derived.Test.YtoiafopndlnknaaE2
set_option linter.unusedVariables false
set_option linter.unusedSimpArgs false
namespace Go.Proofs.Ytoiafopndlnknaa
open Go.RowKit Go.Shelf

attribute [local go_sem] Oper.semAt_some

/-- what a body keeps: some blocks -/
def KpB (l : List Nat) (W W' : World) : Prop := ∀ k ∈ l, W'.heap[k]? = W.heap[k]?
theorem KpB.trans {l : List Nat} {A B C : World} (h : KpB l A B) (k : KpB l B C) : KpB l A C := fun i hi => (k i hi).trans (h i hi)
theorem KpB.putObj {l : List Nat} {W : World} {k : Nat} (o' : Obj) (hk : ∀ j ∈ l, j < k) : KpB l W (W.putObj k o') := fun i hi => World.putObj_heap_other (by have := hk i hi; omega)
/-- downwards -/
def dnl : Nat → List Nat
  | 0 => []
  | k + 1 => k :: dnl k
theorem dnl_len : ∀ m, (dnl m).length = m
  | 0 => rfl
  | m + 1 => by simp [dnl, dnl_len m]
theorem dnl_map (L : List Nat) : ∀ m, m ≤ L.length → (dnl m).map (fun x => L.getD x 0) = (L.take m).reverse
  | 0, _ => by simp [dnl]
  | m + 1, h => by
    rw [List.take_succ_eq_append_getElem (by omega), List.reverse_append]
    simp only [dnl, List.map_cons, dnl_map L m (by omega)]
    rw [List.getD_eq_getElem?_getD, List.getElem?_eq_getElem (by omega)]
    rfl
set_option maxRecDepth 100000 in
set_option maxHeartbeats 400000 in
theorem back1_in (l Bp g m c : Nat) (L : List Nat) (hm : L.length = m) (hm0 : m ≤ 65536) (J Jx : List Nat → World → Prop)
    (hY : ∀ pre x W, J pre W → pre.length < m → YieldAt Fence.wide 7 Try.prog l #[.int .i64 (x : Nat), .int .i64 (L.getD x 0 : Nat)] W fun e W' =>
      (e = .returned (.bool true) ∧ J (pre ++ [x]) W' ∧ KpB [Bp, g] W W') ∨ (e = .returned (.bool false) ∧ Jx (pre ++ [x]) W'))
    (W : World) (hBp : Blk W Bp 31 #[.slice (some ⟨g, 0, none⟩) m c]) (hmc : m ≤ c) (hR : ∃ cs, Blk W g 3 cs ∧ ∀ i, i < m → cs[i]? = some (Value.int .i64 (L.getD i 0 : Nat))) (h0 : J [] W) :
    CallsIn Fence.wide 8 Try.prog 64 #[.func (.yield l) #[] #[], .pointer (some ⟨Bp, 0, none⟩)] W fun e W' => (∃ v, e = .returned v) ∧
      ((∃ ys, ys = dnl m ∧ J ys W') ∨ (∃ pre, True ∧ Jx pre W')) := by
  have cp := hBp.cell 0
  simp at cp
  refine callsIn_of_wp Try.func64 rfl trivial ?_ rfl
  simp only [Try.ntmps64, List.size_toArray, List.length_cons, List.length_nil, Nat.reduceAdd, Nat.reduceSub, Array.replicate_succ, Array.replicate_zero, List.push_toArray, List.append_toArray, List.nil_append, List.cons_append]
  gi_wp2
  clear cp
  gi_loopg [3] m (fun k p wr => ∃ (pre : List Nat), p = .int .i64 ((k : Int) - 1) ∧ k ≤ m ∧ pre ++ dnl k = dnl m ∧ J pre wr ∧ Blk wr Bp 31 #[.slice (some ⟨g, 0, none⟩) m c] ∧ ∃ cs, Blk wr g 3 cs ∧ ∀ i, i < m → cs[i]? = some (Value.int .i64 (L.getD i 0 : Nat)))
  case atStart => exact ⟨[], rfl, Nat.le_refl _, rfl, h0, hBp, hR⟩
  case round =>
    clear hBp hR
    obtain ⟨pre, rfl, hk, hpr, hJ, kp, cs, kg, hcs⟩ := hrel
    rcases gk with _ | k
    · have HP := Lib.hid hpr
      clear hpr
      gi_wp2
      go_end0
      exact ⟨⟨_, rfl⟩, .inl ⟨pre, by have := HP.out; simpa [dnl] using this, hJ⟩⟩
    · have hlen : pre.length < m := by
        have := congrArg List.length hpr
        rw [List.length_append, dnl_len, dnl_len] at this
        omega
      obtain ⟨fn, tmps, assign, body, hy, hY2⟩ := hY pre k wr hJ hlen
      have HP := Lib.hid (show (pre ++ [k]) ++ dnl k = dnl m by rw [← hpr]; simp [dnl])
      have cp := kp.cell 0
      have cg := (kg.cell k).trans (hcs k (by omega))
      have hcs := Lib.hid hcs
      simp at cp
      have e1 : ((k + 1 : Nat) : Int) - 1 = (k : Int) := by omega
      rw [e1]
      have hkm : (k : Int) < (m : Int) := by omega
      have hk0 : (0 : Int) ≤ (k : Int) := by omega
      obtain ⟨y, hy0⟩ : ∃ y, L.getD k 0 = y := ⟨_, rfl⟩
      rw [hy0] at hy cg
      clear hpr e1 hy0
      gi_wp2
      refine hY2.mono ?_
      rintro e W3 (⟨rfl, hJ3, hkp⟩ | ⟨rfl, hJx3⟩)
      · have kp3 : Blk W3 Bp 31 #[.slice (some ⟨g, 0, none⟩) m c] := (hkp Bp (by simp)).trans kp
        have kg3 : Blk W3 g 3 cs := (hkp g (by simp)).trans kg
        clear hkp
        gi_wp2
        go_roundg k
        case measure => omega
        case rel => exact ⟨pre ++ [k], rfl, by omega, HP.out, hJ3, kp3, cs, kg3, hcs.out⟩
      · gi_wp2
        refine bodyPost_ret (results_none rfl _ _ _) rfl ?_
        exact ⟨⟨_, rfl⟩, .inr ⟨pre ++ [k], trivial, hJx3⟩⟩
theorem back_any (v : Value) (A : Option Addr) (m c : Nat) (hv : v = .slice A m c) (w : World) :
    Calls Try.prog 43 #[v] w fun e w' => e = .returned (.func (.func 64) #[] #[.pointer (some ⟨w.heap.size, 0, none⟩)]) ∧ w.alloc (.cells #[v] 31) = w' := by
  subst hv
  go_enter Try.func43, Try.ntmps43
  go_wp2
  go_ret
  exact ⟨rfl, rfl⟩
theorem back_stops (Bp g m c : Nat) (L : List Nat) (hm : L.length = m) (hm0 : m ≤ 65536) (hmc : m ≤ c) (w : World) (hBp : Blk w Bp 31 #[.slice (some ⟨g, 0, none⟩) m c]) (hR : ∃ cs, Blk w g 3 cs ∧ ∀ i, i < m → cs[i]? = some (Value.int .i64 (L.getD i 0 : Nat))) :
    SeqStopsK Fence.wide 8 Try.prog 64 #[.pointer (some ⟨Bp, 0, none⟩)] (fun x : Nat => #[Value.int .i64 (x : Nat), Value.int .i64 (L.getD x 0 : Nat)]) (KpB [Bp, g]) (fun ys => ys = dnl m) (fun _ => True) m w := fun l J Jx W hW _ _ hY h0 =>
  back1_in l Bp g m c L hm hm0 J Jx hY W (hBp.below hW hBp.lt) hmc (by obtain ⟨cs, h1, h2⟩ := hR; exact ⟨cs, h1.below hW h1.lt, h2⟩) h0
end Go.Proofs.Ytoiafopndlnknaa
