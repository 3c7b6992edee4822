/-
  The iterators of package fenwick, and Prefix.
-/
import Derived.Test.YtjikfmacdacgaaaMath
import Derived.Test.YtjikfmacdacgaaaRf
import Derived.Test.YtjikfmacdacgaaaW1
import Derived.WalkSpells
import Derived.WalkLawsBesides
import Derived.Deep.RegionHeld3
import Derived.Deep.DrawnRows
set_option linter.unusedVariables false
set_option linter.unusedSimpArgs false
namespace Go.Proofs.Ytjikfmacdacgaaa
open Go.RowKit Go.Shelf Fw

attribute [local go_sem] Oper.semAt_some

theorem ofInt_i64 (a : Nat) (ha : a < 9223372036854775808) : (BitVec.ofInt 64 (a : Int)).toNat = a := by
  rw [BitVec.ofInt_natCast, BitVec.toNat_ofNat]; exact Nat.mod_eq_of_lt (by omega)
theorem i64_and_nat (a b : Nat) (ha : a < 9223372036854775808) (hb : b < 9223372036854775808) : bits .and .i64 (a : Int) (b : Int) = ((a &&& b : Nat) : Int) := by
  have hx : a &&& b < 2 ^ 63 := Nat.and_lt_two_pow _ (by omega)
  show IntKind.i64.wrap ((BitVec.ofInt 64 (a : Int) &&& BitVec.ofInt 64 (b : Int)).toNat : Int) = _
  rw [BitVec.toNat_and, ofInt_i64 a ha, ofInt_i64 b hb, IntKind.wrap_i64]
  omega
theorem band_pred (p : Nat) (h0 : 0 < p) (h1 : p ≤ 65537) : bits .and .i64 (p : Int) ((p : Int) - 1) = ((p - lb p : Nat) : Int) := by
  have h := i64_and_nat p (p - 1) (by omega) (by omega)
  rw [show ((p - 1 : Nat) : Int) = (p : Int) - 1 by omega, land_pred] at h
  exact h
theorem band_neg (p : Nat) (h0 : 0 < p) (h1 : p ≤ 65537) : bits .and .i64 (p : Int) (-(p : Int)) = ((lb p : Nat) : Int) := by
  show IntKind.i64.wrap ((BitVec.ofInt 64 (p : Int) &&& BitVec.ofInt 64 (-(p : Int))).toNat : Int) = _
  rw [and_neg_nat p h0 (by omega), IntKind.wrap_i64]
  have := lb_le p
  show (((lb p : Nat) : Int) + 9223372036854775808) % 18446744073709551616 - 9223372036854775808 = _
  omega

set_option maxRecDepth 100000 in
set_option maxHeartbeats 400000 in
theorem parts1_in (l Bn n : Nat) (k : Int) (hk : k ≤ n) (hn : n ≤ 65536) (J Jx : List Nat → World → Prop)
    (hY : ∀ pre x W, J pre W → pre.length < n + 1 → YieldAt Fence.wide 7 Try.prog l #[.int .i64 (cl n x : Nat)] W fun e W' =>
      (e = .returned (.bool true) ∧ J (pre ++ [x]) W' ∧ True) ∨ (e = .returned (.bool false) ∧ Jx (pre ++ [x]) W'))
    (W : World) (hBn : W.cell? ⟨Bn, 0, none⟩ = some (.int .i64 k)) (h0 : J [] W) :
    CallsIn Fence.wide 8 Try.prog 42 #[.func (.yield l) #[] #[], .pointer (some ⟨Bn, 0, none⟩)] W fun e W' => (∃ v, e = .returned v) ∧
      ((∃ ys, IsDown k.toNat ys ∧ J ys W') ∨ (∃ pre, True ∧ Jx pre W')) := by
  refine callsIn_of_wp Try.func42 rfl trivial ?_ rfl
  simp only [Try.ntmps42, List.size_toArray, List.length_cons, List.length_nil, Nat.reduceAdd, Nat.reduceSub, Array.replicate_succ, Array.replicate_zero, List.push_toArray, List.append_toArray, List.nil_append, List.cons_append]
  gi_wp2
  gi_loopw [3] (fun p wr => ∃ (pre : List Nat) (q : Int), p = .int .i64 q ∧ q ≤ k ∧ pre.length + q.toNat ≤ k.toNat ∧ Hid (∀ rest, IsDown q.toNat rest → IsDown k.toNat (pre ++ rest)) ∧ J pre wr)
    (fun p _ => (intOf p).toNat)
  case atStart =>
    exact ⟨[], k, rfl, Int.le_refl _, by simp, fun _ h => h, h0⟩
  case round =>
    obtain ⟨pre, qi, rfl, hq, hlen, HR, hJs⟩ := hrel
    by_cases hq0 : 0 < qi
    · obtain ⟨q, rfl⟩ := Int.eq_ofNat_of_zero_le (Int.le_of_lt hq0)
      obtain ⟨fn, tmps, assign, body, hy, hR⟩ := hY pre q wr hJs (by omega)
      rw [cl_eq (by omega)] at hy
      have hb := band_pred q (by omega) (by omega)
      have hlb := lb_pos (p := q) (by omega)
      gi_wp2
      refine hR.mono ?_
      rintro e W3 (⟨rfl, hJ3, -⟩ | ⟨rfl, hJx3⟩)
      · gi_wp2
        go_roundw
        case rel => exact ⟨pre ++ [q], ((q - lb q : Nat) : Int), by first | rfl | go_num, by omega, by simp; omega, fun rest hr => by rw [List.append_assoc]; exact HR.out _ ⟨rfl, by omega, hr⟩, hJ3⟩
        case measure => simp [intOf]; omega
      · gi_wp2
        refine bodyPost_ret (results_none rfl _ _ _) rfl ?_
        exact ⟨⟨_, rfl⟩, .inr ⟨pre ++ [q], trivial, hJx3⟩⟩
    · gi_wp2
      go_end0
      exact ⟨⟨_, rfl⟩, .inl ⟨pre, by have := HR.out [] (by show qi.toNat = 0; omega); simpa using this, hJs⟩⟩

theorem parts_stops (Bn n : Nat) (k : Int) (hk : k ≤ n) (hn : n ≤ 65536) (w : World) (hBn : Bn < w.heap.size) (hc : w.cell? ⟨Bn, 0, none⟩ = some (.int .i64 k)) :
    SeqStopsK Fence.wide 8 Try.prog 42 #[.pointer (some ⟨Bn, 0, none⟩)] (fun x : Nat => #[Value.int .i64 (cl n x : Nat)]) (fun _ _ => True) (IsDown k.toNat) (fun _ => True) (n + 1) w := fun l J Jx W hW _ _ hY h0 =>
  parts1_in l Bn n k hk hn J Jx hY W ((hW.cell (p := ⟨Bn, 0, none⟩) hBn).trans hc) h0

theorem parts_any (p : Option Addr) (k : Int) (w : World) :
    Calls Try.prog 34 #[.pointer p, .int .i64 k] w fun e w' => e = .returned (.func (.func 42) #[] #[.pointer (some ⟨w.heap.size, 0, none⟩)]) ∧ w.alloc (.cells #[.int .i64 k] 3) = w' := by
  go_enter Try.func34, Try.ntmps34
  go_wp2
  go_ret
  exact ⟨rfl, rfl⟩

set_option maxRecDepth 100000 in
set_option maxHeartbeats 400000 in
theorem holders1_in (l Bi Bc b s n i c : Nat) (hi : i < n) (hn : n ≤ 65536) (J Jx : List Nat → World → Prop)
    (hY : ∀ pre x W, J pre W → pre.length < n + 1 → YieldAt Fence.wide 7 Try.prog l #[.int .i64 (cl n x : Nat)] W fun e W' =>
      (e = .returned (.bool true) ∧ J (pre ++ [x]) W' ∧ (W'.heap[Bc]? = W.heap[Bc]? ∧ W'.heap[b]? = W.heap[b]?)) ∨ (e = .returned (.bool false) ∧ Jx (pre ++ [x]) W'))
    (W : World) (hBi : W.cell? ⟨Bi, 0, none⟩ = some (.int .i64 i)) (hBc : Blk W Bc 24 #[.pointer (some ⟨b, 0, none⟩)])
    (hb : Blk W b 59 #[.pointer (some ⟨b, 0, none⟩), .slice (some ⟨s, 0, none⟩) (n + 1) c]) (h0 : J [] W) :
    CallsIn Fence.wide 8 Try.prog 45 #[.func (.yield l) #[] #[], .pointer (some ⟨Bi, 0, none⟩), .pointer (some ⟨Bc, 0, none⟩)] W fun e W' => (∃ v, e = .returned v) ∧
      ((∃ ys, IsUp n (i + 1) ys ∧ J ys W') ∨ (∃ pre, True ∧ Jx pre W')) := by
  refine callsIn_of_wp Try.func45 rfl trivial ?_ rfl
  simp only [Try.ntmps45, List.size_toArray, List.length_cons, List.length_nil, Nat.reduceAdd, Nat.reduceSub, Array.replicate_succ, Array.replicate_zero, List.push_toArray, List.append_toArray, List.nil_append, List.cons_append]
  gi_wp2
  gi_loopw [4] (fun p wr => ∃ (pre : List Nat) (q : Nat), p = .int .i64 q ∧ i < q ∧ q ≤ 2 * n ∧ pre.length < q ∧ Hid (∀ rest, IsUp n q rest → IsUp n (i + 1) (pre ++ rest)) ∧ J pre wr ∧ Blk wr Bc 24 #[.pointer (some ⟨b, 0, none⟩)] ∧ Blk wr b 59 #[.pointer (some ⟨b, 0, none⟩), .slice (some ⟨s, 0, none⟩) (n + 1) c])
    (fun p _ => 2 * n + 1 - (intOf p).toNat)
  case atStart =>
    exact ⟨[], i + 1, by first | rfl | go_num, by omega, by omega, by simp, fun _ h => h, h0, hBc, hb⟩
  case round =>
    obtain ⟨pre, q, rfl, hq, hq2, hlen, HR, hJs, kc, kb⟩ := hrel
    have c0 := kc.cell 0
    have c1 := kb.cell 1
    simp at c0 c1
    by_cases hqn : q ≤ n
    · obtain ⟨fn, tmps, assign, body, hy, hR⟩ := hY pre q wr hJs (by omega)
      rw [cl_eq (by omega)] at hy
      have hbn := band_neg q (by omega) (by omega)
      have hlb := lb_pos (p := q) (by omega)
      have hlb2 := lb_le q
      gi_wp2
      refine hR.mono ?_
      rintro e W3 (⟨rfl, hJ3, hk1, hk2⟩ | ⟨rfl, hJx3⟩)
      · gi_wp2
        go_roundw
        case rel => exact ⟨pre ++ [q], q + lb q, by first | rfl | go_num, by omega, by omega, by simp; omega, fun rest hr => by rw [List.append_assoc]; exact HR.out _ ⟨rfl, hqn, hr⟩, hJ3, hk1.trans kc, hk2.trans kb⟩
        case measure => simp [intOf]; omega
      · gi_wp2
        refine bodyPost_ret (results_none rfl _ _ _) rfl ?_
        exact ⟨⟨_, rfl⟩, .inr ⟨pre ++ [q], trivial, hJx3⟩⟩
    · gi_wp2
      go_end0
      exact ⟨⟨_, rfl⟩, .inl ⟨pre, by have := HR.out [] (by unfold IsUp; omega); simpa using this, hJs⟩⟩

end Go.Proofs.Ytjikfmacdacgaaa
