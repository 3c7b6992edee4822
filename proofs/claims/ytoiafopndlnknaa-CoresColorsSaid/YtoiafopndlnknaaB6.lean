/-
  graph.New, whole.
-/
import Derived.Test.YtoiafopndlnknaaB4
import Derived.Test.YtoiafopndlnknaaB5
set_option linter.unusedVariables false
set_option linter.unusedSimpArgs false
namespace Go.Proofs.Ytoiafopndlnknaa
open Go.RowKit Go.Shelf

/-- edges as they came in -/
def esOf (z : Nat → Nat → Int) (m : Nat) : Es := (List.range m).map fun i => ((z i 0).toNat, (z i 1).toNat)
theorem esOf_len (z : Nat → Nat → Int) (m : Nat) : (esOf z m).length = m := by simp [esOf]
theorem esOf_edge (z : Nat → Nat → Int) {m i : Nat} (h : i < m) : edge (esOf z m) i = ((z i 0).toNat, (z i 1).toNat) := by
  unfold edge esOf
  rw [List.getD_eq_getElem?_getD, List.getElem?_map, List.getElem?_range h]
  rfl
def GoodE (N : Int) (z : Nat → Nat → Int) (i : Nat) : Prop := 0 ≤ z i 0 ∧ z i 0 < N ∧ 0 ≤ z i 1 ∧ z i 1 < N ∧ z i 0 ≠ z i 1
def Good (N : Int) (m : Nat) (z : Nat → Nat → Int) : Prop := 0 ≤ N ∧ N ≤ 4096 ∧ m ≤ 16384 ∧ ∀ i, i < m → GoodE N z i
theorem Good.fine {n m : Nat} {z : Nat → Nat → Int} (h : Good n m z) : Fine n (esOf z m) := by
  obtain ⟨h0, h1, h2, h3⟩ := h
  refine ⟨by omega, by rw [esOf_len]; exact h2, fun e he => ?_⟩
  obtain ⟨i, hi, rfl⟩ := List.mem_map.1 he
  have hi : i < m := by simpa using hi
  obtain ⟨g1, g2, g3, g4, g5⟩ := h3 i hi
  exact ⟨by omega, by omega, by omega⟩
/-- what New gives -/
def Newed (w : World) (N : Int) (m : Nat) (z : Nat → Nat → Int) (e : Ending) (w' : World) : Prop :=
  (Good N m z ∧ ∃ K, e = .returned (.tuple #[.pointer (some ⟨K.g, 0, none⟩), .int .i64 0]) ∧ Gr w' K N.toNat (esOf z m)) ∨ (¬ Good N m z ∧ ∃ cd, cd ≠ 0 ∧ e = .returned (.tuple #[.pointer none, .int .i64 cd]))
set_option maxRecDepth 100000 in
set_option maxHeartbeats 1000000 in
theorem new_any (N : Int) (m c : Nat) (A : Option Addr) (z : Nat → Nat → Int) (w : World) (ha : ArgS k3 w A m c z) :
    Calls Try.prog 15 #[.int .i64 N, .slice A m c] w fun e w' => Newed w N m z e w' ∧ Below w.heap.size w w' := by
  have hn63 := ha.2.1
  have hmc := ha.1
  by_cases h0 : N < 0
  · have HB := Lib.hid (show ¬ Good N m z from fun g => by have := g.1; omega)
    go_enter Try.func15, Try.ntmps15
    go_wp2_with fail
    go_ret2
    exact ⟨.inr ⟨HB.out, 2, by decide, rfl⟩, Below.refl _ _⟩
  by_cases h1 : 4096 < N
  · have HB := Lib.hid (show ¬ Good N m z from fun g => by have := g.2.1; omega)
    go_enter Try.func15, Try.ntmps15
    go_wp2_with fail
    go_ret2
    exact ⟨.inr ⟨HB.out, 2, by decide, rfl⟩, Below.refl _ _⟩
  by_cases h2 : 16384 < (m : Int)
  · have HB := Lib.hid (show ¬ Good N m z from fun g => by have := g.2.2.1; omega)
    go_enter Try.func15, Try.ntmps15
    go_wp2_with fail
    go_ret2
    exact ⟨.inr ⟨HB.out, 2, by decide, rfl⟩, Below.refl _ _⟩
  obtain ⟨n, rfl⟩ : ∃ n : Nat, N = n := ⟨N.toNat, by omega⟩
  have q0 := Lib.hid (Below.refl w.heap.size w)
  go_enter Try.func15, Try.ntmps15
  go_wp2_with fail
  go_loopw [7, 21] (fun _ v wr => ∃ i : Nat, v = .int .i64 i ∧ i ≤ m ∧ Below w.heap.size w wr ∧ Hid (∀ k, k < i → GoodE n z k)) (fun _ v _ => 20000 - (intOf v).toNat)
  case atStart => exact ⟨0, rfl, Nat.zero_le _, q0.out, Lib.hid (fun k hk => by omega)⟩
  case round =>
    obtain ⟨i, rfl, hi, q, HG⟩ := hrel
    by_cases hlt : i < m
    · have ha1 := ha.below (q.mono (Nat.le_refl _))
      obtain ⟨ge, o, rfl, hg, e0, e1, e2, f0, f1, f2⟩ := ha1.edge hlt
      have hlt2 : (i : Int) < (m : Int) := by omega
      have HN := Lib.hid (show ¬ GoodE n z i → ¬ Good n m z from fun g1 g2 => g1 (g2.2.2.2 i hlt))
      have HS := Lib.hid (show GoodE n z i → ∀ k, k < i + 1 → GoodE n z k from fun g k hk => by
        rcases Nat.lt_or_ge k i with h | h
        · exact HG.out k h
        · obtain rfl : k = i := by omega
          exact g)
      have HD := Lib.hid (show GoodE n z i ↔ (0 ≤ z i 0 ∧ z i 0 < (n : Int) ∧ 0 ≤ z i 1 ∧ z i 1 < (n : Int) ∧ z i 0 ≠ z i 1) from Iff.rfl)
      have hs := q.size
      obtain ⟨a, ha'⟩ : ∃ a, z i 0 = a := ⟨_, rfl⟩
      obtain ⟨b, hb'⟩ : ∃ a, z i 1 = a := ⟨_, rfl⟩
      obtain ⟨y, hy'⟩ : ∃ a, z i 2 = a := ⟨_, rfl⟩
      rw [ha'] at e0 HD
      rw [hb'] at e1 HD
      rw [hy'] at e2
      clear ha1 ha' hb' hy' f0 f1 f2 HG
      go_upto_region 6 with fail
      have kb := Blk.new wr 47 #[.int .i64 a, .int .i64 b, .int .i64 y]
      have q2 := q.alloc hs (.cells #[.int .i64 a, .int .i64 b, .int .i64 y] 47)
      clear e0 e1 e2 q
      generalize wr.alloc (.cells #[.int .i64 a, .int .i64 b, .int .i64 y] 47) = W3 at *
      have c0 := kb.cell 0
      have c1 := kb.cell 1
      simp at c0 c1
      clear kb
      by_cases g1 : a < 0
      · go_wp2_with fail
        go_ret2
        exact ⟨.inr ⟨HN.out (fun g => by have := HD.out.1 g; omega), 3, by decide, rfl⟩, q2⟩
      by_cases g2 : (n : Int) ≤ a
      · go_wp2_with fail
        go_ret2
        exact ⟨.inr ⟨HN.out (fun g => by have := HD.out.1 g; omega), 3, by decide, rfl⟩, q2⟩
      by_cases g3 : b < 0
      · go_wp2_with fail
        go_ret2
        exact ⟨.inr ⟨HN.out (fun g => by have := HD.out.1 g; omega), 3, by decide, rfl⟩, q2⟩
      by_cases g4 : (n : Int) ≤ b
      · go_wp2_with fail
        go_ret2
        exact ⟨.inr ⟨HN.out (fun g => by have := HD.out.1 g; omega), 3, by decide, rfl⟩, q2⟩
      by_cases g5 : a = b
      · subst g5
        go_wp2_with fail
        go_ret2
        exact ⟨.inr ⟨HN.out (fun g => (HD.out.1 g).2.2.2.2 rfl), 9, by decide, rfl⟩, q2⟩
      · have g6 : (a == b) = false := by rw [beq_eq_false_iff_ne]; exact g5
        have HS2 := Lib.hid (HS.out (HD.out.2 ⟨by omega, by omega, by omega, by omega, g5⟩))
        go_wp2_with fail
        go_roundw
        case rel => exact ⟨i + 1, by simp, by omega, q2, HS2⟩
        case measure => simp [intOf]; omega
    · obtain rfl : i = m := by omega
      have hlt2 : ¬ (i : Int) < (i : Int) := by omega
      have hgood : Good n i z := ⟨by omega, by omega, by omega, HG.out⟩
      have ha1 := ha.below (q.mono (Nat.le_refl _))
      have x1 := clone_e i c A z wr ha1 (by omega)
      have hs := q.size
      have HF := Lib.hid hgood.fine
      have HGD := Lib.hid hgood
      go_wp2_with fail
      refine x1.mono ?_
      rintro e w2 ⟨v, rfl, r2, q2⟩
      obtain ⟨A2, c2, rfl, ha2, _, hA2⟩ := r2.arg (fun k hk j hj => wf_i64 (ha.2.2.2 k hk j .i64 (k3_get hj)))
      have x2 := build_ok n i c2 A2 z (esOf z i) w2 (esOf_len z i) HF.out ha2 (fun k hk => by
        rw [esOf_edge z hk]
        obtain ⟨g1, g2, g3, g4, g5⟩ := HGD.out.2.2.2 k hk
        exact ⟨by simp; omega, by simp; omega⟩) (fun h => by obtain ⟨g, e, _⟩ := hA2 h; exact ⟨g, e⟩)
      have q3 := below_end q hs q2
      clear x1 ha1 ha2
      go_wp2_with fail
      refine x2.mono ?_
      rintro e w3 ⟨K, rfl, hg, q4⟩
      have q5 := below_end q3 q3.size q4
      go_wp2_with fail
      go_ret2
      exact ⟨.inl ⟨HGD.out, K, rfl, by simpa using hg⟩, q5⟩
end Go.Proofs.Ytoiafopndlnknaa
