/-
  The way up: above, Collect.
-/
import Derived.Test.YtgichkjomhnehaaW5
import Derived.Test.YtgichkjomhnehaaRf
import Derived.Test.YtgichkjomhnehaaR1
import Derived.Deep.RegionHeld3
import Derived.Deep.DrawnRows
import Derived.Sort.LoopGhostIn
set_option linter.unusedVariables false
set_option linter.unusedSimpArgs false
namespace Go.Proofs.Ytgichkjomhnehaa
open Go.RowKit Go.Shelf

attribute [local go_sem] Oper.semAt_some

theorem Nodes.heap {w w' : World} {s n : Nat} {st : Nat → Nd} (h : Nodes w s n st) (e : w'.heap[s]? = w.heap[s]?) : Nodes w' s n st := by
  obtain ⟨cs, k, hc⟩ := h
  exact ⟨cs, e.trans k, hc⟩
theorem SP.heap {w w' : World} {b s n : Nat} {st : Nat → Nd} (h : SP w b s n st) (e : w'.heap[b]? = w.heap[b]?) (e2 : w'.heap[s]? = w.heap[s]?) : SP w' b s n st := by
  obtain ⟨⟨c, k, hc⟩, k2⟩ := h
  exact ⟨⟨c, e.trans k, hc⟩, k2.heap e2⟩
/-- what a body keeps: some blocks -/
def KpB (l : List Nat) (W W' : World) : Prop := ∀ k ∈ l, W'.heap[k]? = W.heap[k]?
theorem KpB.trans {l : List Nat} {A B C : World} (h : KpB l A B) (k : KpB l B C) : KpB l A C := fun i hi => (k i hi).trans (h i hi)
theorem KpB.putObj {l : List Nat} {W : World} {k : Nat} (o' : Obj) (hk : ∀ j ∈ l, j < k) : KpB l W (W.putObj k o') := fun i hi => World.putObj_heap_other (by have := hk i hi; omega)
set_option maxRecDepth 100000 in
set_option maxHeartbeats 400000 in
theorem above1_in (l Bi Bs b s n : Nat) (st : Nat → Nd) (i : Nat) (L : List Nat) (hn : n ≤ 65536) (hU : UpL st i L) (hL : ∀ y ∈ L, y ≤ n) (J Jx : List Nat → World → Prop)
    (hY : ∀ pre x W, J pre W → pre.length < L.length → YieldAt Fence.wide 7 Try.prog l #[.int .i64 (x : Nat)] W fun e W' =>
      (e = .returned (.bool true) ∧ J (pre ++ [x]) W' ∧ KpB [Bs, b, s] W W') ∨ (e = .returned (.bool false) ∧ Jx (pre ++ [x]) W'))
    (W : World) (hBi : W.cell? ⟨Bi, 0, none⟩ = some (.int .i64 (i : Int))) (hBs : Blk W Bs 23 #[.pointer (some ⟨b, 0, none⟩)]) (hS : SP W b s n st) (h0 : J [] W) :
    CallsIn Fence.wide 8 Try.prog 69 #[.func (.yield l) #[] #[], .pointer (some ⟨Bi, 0, none⟩), .pointer (some ⟨Bs, 0, none⟩)] W fun e W' => (∃ v, e = .returned v) ∧
      ((∃ ys, ys = L ∧ J ys W') ∨ (∃ pre, True ∧ Jx pre W')) := by
  refine callsIn_of_wp Try.func69 rfl trivial ?_ rfl
  simp only [Try.ntmps69, List.size_toArray, List.length_cons, List.length_nil, Nat.reduceAdd, Nat.reduceSub, Array.replicate_succ, Array.replicate_zero, List.push_toArray, List.append_toArray, List.nil_append, List.cons_append]
  gi_wp2
  gi_loopg [4] L.length (fun k p wr => ∃ (pre rest : List Nat) (q : Nat), k = rest.length ∧ p = .int .i64 q ∧ UpL st q rest ∧ pre ++ rest = L ∧ J pre wr ∧ Blk wr Bs 23 #[.pointer (some ⟨b, 0, none⟩)] ∧ SP wr b s n st)
  case atStart => exact ⟨[], L, i, rfl, rfl, hU, rfl, h0, hBs, hS⟩
  case round =>
    obtain ⟨pre, rest, q, rfl, rfl, hu, hpr, hJ, kb, kS⟩ := hrel
    cases rest with
    | nil =>
      obtain rfl : q = 0 := hu
      have HP := Lib.hid hpr
      clear hpr
      gi_wp2
      go_end0
      exact ⟨⟨_, rfl⟩, .inl ⟨pre, by have := HP.out; simpa using this, hJ⟩⟩
    | cons y rest =>
      obtain ⟨rfl, hq0, hu⟩ := hu
      have hyn : q ≤ n := hL q (by rw [← hpr]; simp)
      have hlen : pre.length < L.length := by rw [← hpr]; simp
      have hq1 : ((q : Int) == 0) = false := by simp; omega
      have hq2 : ¬ (q : Int) = 0 := by omega
      have hqn : (q : Int) < (n : Int) + 1 := by omega
      obtain ⟨fn, tmps, assign, body, hy, hR⟩ := hY pre q wr hJ hlen
      have HP := Lib.hid (show (pre ++ [q]) ++ rest = L by rw [← hpr]; simp)
      have HU := Lib.hid hu
      clear hpr hu
      gi_wp2
      refine hR.mono ?_
      rintro e W3 (⟨rfl, hJ3, hk⟩ | ⟨rfl, hJx3⟩)
      · have kb3 : Blk W3 Bs 23 #[.pointer (some ⟨b, 0, none⟩)] := (hk Bs (by simp)).trans kb
        have kS3 := kS.heap (hk b (by simp)) (hk s (by simp))
        have c0 := kb3.cell 0
        simp at c0
        obtain ⟨c, c1, hc⟩ := kS3.cell1
        have cu : W3.cell? ⟨s, q * 9 + 2, none⟩ = some (.int .i64 ((st q).up : Int)) := kS3.2.cell hyn 2 (by decide)
        clear hk
        gi_wp2
        go_roundg rest.length
        case measure => simp
        case rel => exact ⟨pre ++ [q], rest, (st q).up, rfl, rfl, HU.out, HP.out, hJ3, kb3, kS3⟩
      · gi_wp2
        refine bodyPost_ret (results_none rfl _ _ _) rfl ?_
        exact ⟨⟨_, rfl⟩, .inr ⟨pre ++ [q], trivial, hJx3⟩⟩
theorem above_any (p : Option Addr) (i : Int) (w : World) :
    Calls Try.prog 64 #[.pointer p, .int .i64 i] w fun e w' => e = .returned (.func (.func 69) #[] #[.pointer (some ⟨w.heap.size + 1, 0, none⟩), .pointer (some ⟨w.heap.size, 0, none⟩)]) ∧ (w.alloc (.cells #[.pointer p] 23)).alloc (.cells #[.int .i64 i] 3) = w' := by
  go_enter Try.func64, Try.ntmps64
  go_wp2
  go_ret
  exact ⟨rfl, rfl⟩
theorem above_stops (Bi Bs b s n : Nat) (st : Nat → Nd) (i : Nat) (L : List Nat) (hn : n ≤ 65536) (hU : UpL st i L) (hL : ∀ y ∈ L, y ≤ n) (w : World) (hBi : Blk w Bi 3 #[.int .i64 (i : Int)]) (hBs : Blk w Bs 23 #[.pointer (some ⟨b, 0, none⟩)]) (hS : SP w b s n st) :
    SeqStopsK Fence.wide 8 Try.prog 69 #[.pointer (some ⟨Bi, 0, none⟩), .pointer (some ⟨Bs, 0, none⟩)] (fun x : Nat => #[Value.int .i64 (x : Nat)]) (KpB [Bs, b, s]) (fun ys => ys = L) (fun _ => True) L.length w := fun l J Jx W hW _ _ hY h0 =>
  above1_in l Bi Bs b s n st i L hn hU hL J Jx hY W (by have := (hBi.below hW hBi.lt).cell 0; simpa using this) (hBs.below hW hBs.lt) (hS.below hW) h0
end Go.Proofs.Ytgichkjomhnehaa
