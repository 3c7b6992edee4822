/-
  The document's lowest, Densest.
-/
import Derived.Test.YtoiafopndlnknaaK6
set_option linter.unusedVariables false
set_option linter.unusedSimpArgs false
namespace Go.Proofs.Ytoiafopndlnknaa
open Go.RowKit Go.Shelf

theorem Low.le {n d p a b : Nat} (h : Low n d p a b) : b ≤ d := by
  obtain ⟨g, h1, h2⟩ := h.fac
  have := h.dp
  rcases Nat.eq_zero_or_pos g with h0 | h0
  · subst h0; omega
  · rw [h2]; exact Nat.le_mul_of_pos_left b h0
theorem Low.le' {n d p a b : Nat} (h : Low n d p a b) : a ≤ n := by
  obtain ⟨g, h1, h2⟩ := h.fac
  have := h.dp
  rcases Nat.eq_zero_or_pos g with h0 | h0
  · subst h0; omega
  · rw [h1]; exact Nat.le_mul_of_pos_left a h0
set_option maxRecDepth 100000 in
set_option maxHeartbeats 2000000 in
theorem rlowest_ok (n d : Nat) (hd1 : 1 ≤ d) (hn : n ≤ 40000) (hd : d ≤ 40000) (w : World) :
    Calls Try.prog 49 #[.int .i64 (n : Int), .int .i64 (d : Int)] w fun e w' => e = .returned (.agg #[.int .i64 ((n / Nat.gcd n d : Nat) : Int), .int .i64 ((d / Nat.gcd n d : Nat) : Int)]) ∧ Below w.heap.size w w' := by
  have b1 := below_new1 w (.cells #[.int .i64 0, .int .i64 0] 42)
  have kb := Blk.new w 42 #[.int .i64 0, .int .i64 0]
  have HL0 := Lib.hid (Low.start (n := n) hd1)
  obtain ⟨rn, hrn⟩ : ∃ x, n / Nat.gcd n d = x := ⟨_, rfl⟩
  obtain ⟨rd, hrd⟩ : ∃ x, d / Nat.gcd n d = x := ⟨_, rfl⟩
  have HR := Lib.hid (And.intro hrn hrd)
  rw [hrn, hrd]
  clear hrn hrd
  go_enter Try.func49, Try.ntmps49
  go_upto_region 1 with fail
  generalize w.alloc (.cells #[.int .i64 0, .int .i64 0] 42) = W1 at *
  obtain ⟨gB, hgB⟩ : ∃ x, w.heap.size = x := ⟨_, rfl⟩
  have hg0 : w.heap.size ≤ gB := by omega
  rw [hgB] at kb
  rw [hgB]
  clear hgB
  go_wp2_with fail
  go_loopw [0, 1, 5] (fun v0 v1 v5 wr => ∃ a b p : Nat, v0 = .int .i64 a ∧ v1 = .int .i64 b ∧ v5 = .int .i64 p ∧ 2 ≤ p ∧ a ≤ 40000 ∧ b ≤ 40000 ∧ p ≤ 40002 ∧ Hid (Low n d p a b) ∧ Blk wr gB 42 #[.int .i64 0, .int .i64 0] ∧ Below w.heap.size w wr) (fun _ _ v _ => 50000 - (intOf v).toNat)
  case atStart => exact ⟨n, d, 2, rfl, rfl, rfl, by omega, hn, hd, by omega, HL0, kb, b1⟩
  case round =>
    clear kb b1
    obtain ⟨a, b, p, rfl, rfl, rfl, hp, ha, hb, hp2, HL, kb, q⟩ := hrel
    by_cases hlt : p ≤ b
    · have hpb : (p : Int) ≤ (b : Int) := by omega
      go_wp2_with fail
      go_loopw [0, 1] (fun v0 v1 wr => ∃ a b : Nat, v0 = .int .i64 a ∧ v1 = .int .i64 b ∧ a ≤ 40000 ∧ b ≤ 40000 ∧ Hid (Low n d p a b) ∧ Blk wr gB 42 #[.int .i64 0, .int .i64 0] ∧ Below w.heap.size w wr) (fun _ v _ => (intOf v).toNat)
      case atStart => exact ⟨a, b, rfl, rfl, ha, hb, HL, kb, q⟩
      case round =>
        have hp3 : p ≤ 40001 := by omega
        clear kb q HL hlt hpb ha hb
        obtain ⟨a, b, rfl, rfl, ha, hb, HL, kb, q⟩ := hrel
        have hpz : (p : Int) ≠ 0 := by omega
        have hpz2 : p ≠ 0 := by omega
        obtain ⟨x, hx⟩ : ∃ x, a % p = x := ⟨_, rfl⟩
        obtain ⟨y, hy⟩ : ∃ x, b % p = x := ⟨_, rfl⟩
        have t0 : (a : Int).tmod (p : Int) = (x : Int) := by rw [Int.tmod_eq_emod_of_nonneg (by omega), ← hx, Int.natCast_emod]
        have t1 : (b : Int).tmod (p : Int) = (y : Int) := by rw [Int.tmod_eq_emod_of_nonneg (by omega), ← hy, Int.natCast_emod]
        have HX := Lib.hid (And.intro hx hy)
        clear hx hy
        by_cases hx0 : x = 0
        · subst hx0
          by_cases hy0 : y = 0
          · subst hy0
            have HL2 := Lib.hid (HL.out.cut hp (Nat.dvd_of_mod_eq_zero HX.out.1) (Nat.dvd_of_mod_eq_zero HX.out.2))
            have hbp := HL.out.pos
            have hlt : b / p < b := Nat.div_lt_self (by omega) (by omega)
            obtain ⟨a2, ha2⟩ : ∃ x, a / p = x := ⟨_, rfl⟩
            obtain ⟨b2, hb2⟩ : ∃ x, b / p = x := ⟨_, rfl⟩
            have u0 : (a : Int).tdiv (p : Int) = (a2 : Int) := by rw [Int.tdiv_eq_ediv_of_nonneg (by omega), ← ha2, Int.natCast_ediv]
            have u1 : (b : Int).tdiv (p : Int) = (b2 : Int) := by rw [Int.tdiv_eq_ediv_of_nonneg (by omega), ← hb2, Int.natCast_ediv]
            have ha3 : a2 ≤ 40000 := by rw [← ha2]; exact Nat.le_trans (Nat.div_le_self _ _) ha
            rw [ha2, hb2] at HL2
            rw [hb2] at hlt
            clear ha2 hb2
            go_upto_region 5 with fail
            go_quiet (fail)
            have kb := kb.drewN nq
            have q := below_drewN q nq
            generalize wr.drewN nq = W2 at *
            go_wp2_with fail
            go_roundw
            case rel => exact ⟨a2, b2, rfl, rfl, ha3, by omega, HL2, kb, q⟩
            case measure => simp [intOf]; omega
          · have HL2 := Lib.hid (HL.out.next (fun h => hy0 (by rw [← HX.out.2]; exact Nat.mod_eq_zero_of_dvd h.2)))
            have hy1 : ((y : Int) == 0) = false := by simp; omega
            have hy2 : ¬ (y : Int) = 0 := by omega
            go_wp2_with fail
            go_roundw
            case rel => exact ⟨a, b, p + 1, rfl, rfl, by simp, by omega, ha, hb, by omega, HL2, kb, q⟩
            case measure => simp [intOf]; omega
        · have HL2 := Lib.hid (HL.out.next (fun h => hx0 (by rw [← HX.out.1]; exact Nat.mod_eq_zero_of_dvd h.1)))
          have hx1 : ((x : Int) == 0) = false := by simp; omega
          have hx2 : ¬ (x : Int) = 0 := by omega
          go_wp2_with fail
          go_roundw
          case rel => exact ⟨a, b, p + 1, rfl, rfl, by simp, by omega, ha, hb, by omega, HL2, kb, q⟩
          case measure => simp [intOf]; omega
    · have hpb : ¬ (p : Int) ≤ (b : Int) := by omega
      obtain ⟨e1, e2⟩ := HL.out.done (by omega)
      rw [HR.out.1] at e1
      rw [HR.out.2] at e2
      subst e1
      subst e2
      have c0 := kb.cell 0
      have c1 := kb.cell 1
      have c2 := kb.frozen 0
      have c3 := kb.frozen 1
      simp at c0 c1
      go_wp2_with fail
      have k4 : Blk ((wr.setCell ⟨gB, 0, none⟩ (.int .i64 (a : Int))).setCell ⟨gB, 1, none⟩ (.int .i64 (b : Int))) gB 42 #[.int .i64 (a : Int), .int .i64 (b : Int)] := by
        have := (kb.set_ 0 (.int .i64 (a : Int))).set_ 1 (.int .i64 (b : Int))
        simpa using this
      have q4 := (q.setCell (p := ⟨gB, 0, none⟩) hg0 (.int .i64 (a : Int))).setCell (p := ⟨gB, 1, none⟩) hg0 (.int .i64 (b : Int))
      clear c0 c1 c2 c3
      generalize (wr.setCell ⟨gB, 0, none⟩ (.int .i64 (a : Int))).setCell ⟨gB, 1, none⟩ (.int .i64 (b : Int)) = W2 at *
      have c0 := k4.cell 0
      have c1 := k4.cell 1
      simp at c0 c1
      simp [bodyPost, results, Try.results49, go_sem, c0, c1]
      exact q4
end Go.Proofs.Ytoiafopndlnknaa
