/-
  before, push.
-/
import Derived.Test.YtgichkjomhnehaaW2
set_option linter.unusedVariables false
set_option linter.unusedSimpArgs false
namespace Go.Proofs.Ytgichkjomhnehaa
open Go.RowKit Go.Shelf

set_option maxRecDepth 100000 in
theorem before_ok (b s n : Nat) (st : Nat → Nd) (i j : Nat) (w : World) (h : SP w b s n st) (hn : n ≤ 65536) (hi : i ≤ n) (hj : j ≤ n) :
    Calls Try.prog 59 #[.pointer (some ⟨b, 0, none⟩), .int .i64 i, .int .i64 j] w fun e w' => e = .returned (.bool (bef (fun j => (st j).v) i j)) ∧ ∃ m, w' = w.drewN m := by
  obtain ⟨c, h1, h2, h3⟩ := h.cell1
  have ca : w.cell? ⟨s, i * 9 + 4, none⟩ = some (.int .i64 (st i).v) := h.2.cell hi 4 (by decide)
  have cb : w.cell? ⟨s, j * 9 + 4, none⟩ = some (.int .i64 (st j).v) := h.2.cell hj 4 (by decide)
  have hin : (i : Int) < (n : Int) + 1 := by omega
  have hjn : (j : Int) < (n : Int) + 1 := by omega
  obtain ⟨r, hr⟩ : ∃ r, bef (fun j => (st j).v) i j = r := ⟨_, rfl⟩
  rw [hr]
  have hr2 : r = decide ((st i).v < (st j).v ∨ ((st i).v = (st j).v ∧ i < j)) := hr.symm
  clear hr
  generalize (st i).v = a at *
  generalize (st j).v = d at *
  by_cases h5 : a < d
  · obtain rfl : r = true := by rw [hr2]; exact decide_eq_true (Or.inl h5)
    clear hr2
    have h5' : decide (a < d) = true := decide_eq_true h5
    go_enter Try.func59, Try.ntmps59
    go_wp2_with fail
    go_quiet (fail)
    go_wp2_with fail
    go_ret
    exact ⟨rfl, nq, rfl⟩
  have h5' : decide (a < d) = false := decide_eq_false h5
  by_cases h6 : a = d
  · subst h6
    by_cases h7 : i < j
    · obtain rfl : r = true := by rw [hr2]; exact decide_eq_true (Or.inr ⟨rfl, h7⟩)
      clear hr2
      have h7' : (i : Int) < (j : Int) := by omega
      have h8 : decide (i < j) = true := decide_eq_true h7
      go_enter Try.func59, Try.ntmps59
      go_wp2_with fail
      go_quiet (fail)
      go_wp2_with fail
      go_ret
      exact ⟨rfl, nq, rfl⟩
    · obtain rfl : r = false := by rw [hr2]; exact decide_eq_false (by omega)
      clear hr2
      have h7' : ¬ (i : Int) < (j : Int) := by omega
      have h8 : decide (i < j) = false := decide_eq_false h7
      go_enter Try.func59, Try.ntmps59
      go_wp2_with fail
      go_quiet (fail)
      go_wp2_with fail
      go_ret
      exact ⟨rfl, nq, rfl⟩
  · obtain rfl : r = false := by rw [hr2]; exact decide_eq_false (by omega)
    clear hr2
    have h6' : (a == d) = false := by simpa using h6
    go_enter Try.func59, Try.ntmps59
    go_wp2_with fail
    go_quiet (fail)
    go_wp2_with fail
    go_ret
    exact ⟨rfl, nq, rfl⟩
theorem put_put (st : Nat → Nd) (i : Nat) (a c : Nd) : put (put st i a) i c = put st i c := by
  funext j
  unfold put
  split <;> simp_all
theorem togF_zero (st : Nat → Nd) : togF st 0 = st := by unfold togF; rw [if_pos rfl]
theorem togF_pos (st : Nat → Nd) {k : Nat} (h : k ≠ 0) : togF st k = put st k { st k with flip := !(st k).flip } := by unfold togF; rw [if_neg h]
theorem idx70 (x y : Value) (w : World) : (Instr.index 70 (.agg #[x, y]) (.int .i64 0)).run Try.prog w = .ok x w ∧ (Instr.index 70 (.agg #[x, y]) (.int .i64 1)).run Try.prog w = .ok y w := ⟨by kernel_rfl, by kernel_rfl⟩
/-- the states while a push goes over the kids -/
def pst (st : Nat → Nd) (i : Nat) : Nat → Nat → Nd
  | 0 => swapF st i
  | 1 => togF (swapF st i) (st i).k1
  | _ => togF (togF (swapF st i) (st i).k1) (st i).k0
set_option maxRecDepth 100000 in
set_option maxHeartbeats 1000000 in
theorem push_ok (b s n : Nat) (st : Nat → Nd) (i : Nat) (w : World) (h : SP w b s n st) (hn : n ≤ 65536) (hi : i ≤ n) (hk0 : (st i).k0 ≤ n) (hk1 : (st i).k1 ≤ n) :
    Calls Try.prog 40 #[.pointer (some ⟨b, 0, none⟩), .int .i64 i] w fun e w' => e = .returned (.tuple #[]) ∧ SP w' b s n (pushF st i) ∧ Turns (· = s) w w' := by
  obtain ⟨c, h1, h2, h3⟩ := h.cell1
  have hin : (i : Int) < (n : Int) + 1 := by omega
  have cf : w.cell? ⟨s, i * 9 + 3, none⟩ = some (.bool (st i).flip) := h.2.cell hi 3 (by decide)
  cases hf : (st i).flip with
  | false =>
    have e : pushF st i = st := by unfold pushF; rw [if_neg (by rw [hf]; decide)]
    rw [hf] at cf
    rw [e]
    clear e hf
    go_enter Try.func40, Try.ntmps40
    go_wp2_with fail
    exact bodyPost_ret (v := .tuple #[]) (by simp [results, Try.results40, go_sem]) rfl ⟨rfl, h, Turns.refl _ _⟩
  | true =>
    have e : pushF st i = pst st i 2 := by unfold pushF; rw [if_pos hf]; rfl
    rw [hf] at cf
    rw [e]
    have HF := Lib.hid (And.intro hf e)
    clear e hf
    have fz := h.2.frozen (i * 9 + 3)
    have S1 := h.set_ hi (f := 3) (by decide) (fld_flip (st i) false).1 (fld_flip (st i) false).2
    have Q1 := (Turns.refl (· = s) w).setCell (p := ⟨s, i * 9 + 3, none⟩) (Or.inr rfl) (.bool false)
    have c0 : (w.setCell ⟨s, i * 9 + 3, none⟩ (.bool false)).cell? ⟨s, i * 9, none⟩ = some (.int .i64 ((st i).k0 : Int)) := by have := S1.2.cell hi 0 (by decide); rw [put_at] at this; exact this
    have c1 : (w.setCell ⟨s, i * 9 + 3, none⟩ (.bool false)).cell? ⟨s, i * 9 + 1, none⟩ = some (.int .i64 ((st i).k1 : Int)) := by have := S1.2.cell hi 1 (by decide); rw [put_at] at this; exact this
    have f0 := S1.2.frozen (i * 9)
    have f1 := S1.2.frozen (i * 9 + 1)
    have S2 := S1.set0 hi (u := .int .i64 ((st i).k1 : Int)) (nd := setK { st i with flip := false } false (st i).k1) (fld_setK _ false _).1 (fun g hg hg0 => by rw [put_at]; exact (fld_setK _ false _).2 g hg hg0)
    have S3 := S2.set_ hi (f := 1) (by decide) (u := .int .i64 ((st i).k0 : Int)) (nd := setK (setK { st i with flip := false } false (st i).k1) true (st i).k0) (fld_setK _ true _).1 (fun g hg hg0 => by rw [put_at]; exact (fld_setK _ true _).2 g hg hg0)
    have Q3 := (Q1.setCell (p := ⟨s, i * 9, none⟩) (Or.inr rfl) (.int .i64 ((st i).k1 : Int))).setCell (p := ⟨s, i * 9 + 1, none⟩) (Or.inr rfl) (.int .i64 ((st i).k0 : Int))
    rw [put_put, put_put] at S3
    have S3 : SP _ b s n (pst st i 0) := S3
    clear S1 S2 Q1
    obtain ⟨W3, hW3⟩ : ∃ W3, ((w.setCell ⟨s, i * 9 + 3, none⟩ (.bool false)).setCell ⟨s, i * 9, none⟩ (.int .i64 ((st i).k1 : Int))).setCell ⟨s, i * 9 + 1, none⟩ (.int .i64 ((st i).k0 : Int)) = W3 := ⟨_, rfl⟩
    rw [hW3] at S3 Q3
    have HW3 := Lib.hid hW3
    clear hW3
    go_enter Try.func40, Try.ntmps40
    go_upto_region 3 with fail
    go_region
    rw [HW3.out]
    have S3 : SP W3.drew b s n (pst st i 0) := S3
    have Q3 := Q3.drew
    generalize W3.drew = W at *
    clear c0 c1 f0 f1 HW3 cf h1 fz
    have c0 : W.cell? ⟨s, i * 9, none⟩ = some (.int .i64 ((st i).k1 : Int)) := by have := S3.2.cell hi 0 (by decide); rw [show pst st i 0 i = { st i with flip := false, k0 := (st i).k1, k1 := (st i).k0 } from put_at _ _ _] at this; exact this
    have c1 : W.cell? ⟨s, i * 9 + 1, none⟩ = some (.int .i64 ((st i).k0 : Int)) := by have := S3.2.cell hi 1 (by decide); rw [show pst st i 0 i = { st i with flip := false, k0 := (st i).k1, k1 := (st i).k0 } from put_at _ _ _] at this; exact this
    obtain ⟨a0, ha0⟩ : ∃ a0, (st i).k0 = a0 := ⟨_, rfl⟩
    obtain ⟨a1, ha1⟩ : ∃ a1, (st i).k1 = a1 := ⟨_, rfl⟩
    have HA := Lib.hid (And.intro ha0 ha1)
    rw [ha0] at c1 hk0
    rw [ha1] at c0 hk1
    clear ha0 ha1 h
    go_upto_region 5 with fail
    clear c0 c1
    have HT := Lib.hid (show ∀ (wr : World) (j k : Nat), k ≠ 0 → k ≤ n → SP wr b s n (pst st i j) → Turns (· = s) w wr → pst st i (j + 1) = togF (pst st i j) k → ∃ fl : Bool, wr.cell? ⟨s, k * 9 + 3, none⟩ = some (.bool fl) ∧ wr.frozen? ⟨s, k * 9 + 3, none⟩ = false ∧ (∃ c, wr.cell? ⟨b, 1, none⟩ = some (.slice (some ⟨s, 0, none⟩) (n + 1) c) ∧ n + 1 ≤ c ∧ c ≤ 9223372036854775807) ∧ SP (wr.setCell ⟨s, k * 9 + 3, none⟩ (.bool !fl)).drew b s n (pst st i (j + 1)) ∧ Turns (· = s) w (wr.setCell ⟨s, k * 9 + 3, none⟩ (.bool !fl)).drew from fun wr j k hk hkn hS hQ he => by
      rw [he, togF_pos _ hk]
      exact ⟨_, hS.2.cell hkn 3 (by decide), hS.2.frozen _, hS.cell1, hS.set_ hkn (f := 3) (by decide) (fld_flip _ _).1 (fld_flip _ _).2, (hQ.setCell (p := ⟨s, k * 9 + 3, none⟩) (Or.inr rfl) _).drew⟩)
    have E1 := Lib.hid (show a1 = 0 → pst st i 1 = pst st i 0 from fun h => by show togF (swapF st i) (st i).k1 = _; rw [HA.out.2, h, togF_zero]; rfl)
    have E2 := Lib.hid (show a0 = 0 → pst st i 2 = pst st i 1 from fun h => by show togF (togF (swapF st i) (st i).k1) (st i).k0 = _; rw [HA.out.1, h, togF_zero]; rfl)
    have T1 := Lib.hid (show pst st i 1 = togF (pst st i 0) a1 from by rw [← HA.out.2]; rfl)
    have T2 := Lib.hid (show pst st i 2 = togF (pst st i 1) a0 from by rw [← HA.out.1]; rfl)
    go_loopw [43, 6] (fun vj _ wr => ∃ j : Nat, vj = .int .i64 j ∧ j ≤ 2 ∧ SP wr b s n (pst st i j) ∧ Turns (· = s) w wr) (fun vj _ _ => 2 - (intOf vj).toNat)
    case atStart => exact ⟨0, rfl, by omega, S3, Q3⟩
    case round =>
      clear S3 Q3
      obtain ⟨j, rfl, hj, hS, hQ⟩ := hrel
      have hj3 : j = 0 ∨ j = 1 ∨ j = 2 := by omega
      rcases hj3 with rfl | rfl | rfl
      · by_cases ha : a1 = 0
        · subst ha
          rw [← E1.out rfl] at hS
          have i0 := (idx70 (.int .i64 0) (.int .i64 (a0 : Int)) wr).1
          go_wp2_with fail
          go_roundw
          case rel => exact ⟨1, by simp, by omega, hS, hQ⟩
          case measure => simp [intOf]
        · obtain ⟨fl, k1, k2, ⟨c', k3, k4, k5⟩, k6, k7⟩ := HT.out wr 0 a1 ha hk1 hS hQ T1.out
          have i0 := (idx70 (.int .i64 (a1 : Int)) (.int .i64 (a0 : Int)) wr).1
          have hne : ((a1 : Int) == 0) = false := by simp; omega
          have hne2 : ¬ (a1 : Int) = 0 := by omega
          have hlt : (a1 : Int) < (n : Int) + 1 := by omega
          clear ha hS hQ
          go_wp2_with fail
          go_region
          go_wp2_with fail
          go_roundw
          case rel => exact ⟨1, by simp, by omega, k6, k7⟩
          case measure => simp [intOf]
      · by_cases ha : a0 = 0
        · subst ha
          rw [← E2.out rfl] at hS
          have i0 := (idx70 (.int .i64 (a1 : Int)) (.int .i64 0) wr).2
          go_wp2_with fail
          go_roundw
          case rel => exact ⟨2, by simp, by omega, hS, hQ⟩
          case measure => simp [intOf]
        · obtain ⟨fl, k1, k2, ⟨c', k3, k4, k5⟩, k6, k7⟩ := HT.out wr 1 a0 ha hk0 hS hQ T2.out
          have i0 := (idx70 (.int .i64 (a1 : Int)) (.int .i64 (a0 : Int)) wr).2
          have hne : ((a0 : Int) == 0) = false := by simp; omega
          have hne2 : ¬ (a0 : Int) = 0 := by omega
          have hlt : (a0 : Int) < (n : Int) + 1 := by omega
          clear ha hS hQ
          go_wp2_with fail
          go_region
          go_wp2_with fail
          go_roundw
          case rel => exact ⟨2, by simp, by omega, k6, k7⟩
          case measure => simp [intOf]
      · have HS := Lib.hid (And.intro hS hQ)
        clear hS hQ
        go_wp2_with fail
        go_end0
        exact ⟨rfl, HS.out.1, HS.out.2⟩
end Go.Proofs.Ytgichkjomhnehaa
