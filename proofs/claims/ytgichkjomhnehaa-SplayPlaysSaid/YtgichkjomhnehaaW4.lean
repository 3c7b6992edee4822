/-
  refresh.
-/
import Derived.Test.YtgichkjomhnehaaW3
import Derived.Outline
import Derived.Laws.Bits64
set_option linter.unusedVariables false
set_option linter.unusedSimpArgs false
namespace Go.Proofs.Ytgichkjomhnehaa
open Go.RowKit Go.Shelf

/-- a kid of i can be read -/
structure KidOk (n : Nat) (st : Nat → Nd) (i k : Nat) : Prop where
  le : k ≤ n
  ne : k ≠ 0 → k ≠ i
  size : (st k).size ≤ 70000
  first : (st k).first ≤ n
  h0 : (st k).s0 < 18446744073709551616
  h1 : (st k).s1 < 18446744073709551616
theorem wrap_hi {v : Int} (h0 : -9223372036854775808 ≤ v) (h1 : v ≤ 9223372036854775807) : IntKind.u64.wrap (v / 9223372036854775808) = (hiV v : Int) := by
  rw [IntKind.wrap_u64]
  unfold hiV
  split <;> omega
theorem wrap_lo (v : Int) : IntKind.u64.wrap v = (loV v : Int) := by
  rw [IntKind.wrap_u64]
  unfold loV
  omega
/-- the node while its kids are added -/
def acc (st : Nat → Nd) (i : Nat) : Nat → Nd
  | 0 => ref0 st i
  | 1 => addK st (ref0 st i) (st i).k0
  | _ => refreshN st i
def kk (st : Nat → Nd) (i : Nat) (j : Nat) : Nat := if j = 0 then (st i).k0 else (st i).k1
structure AccOk (n : Nat) (a : Nd) (m : Nat) : Prop where
  size : a.size ≤ m
  first : a.first ≤ n
  h0 : a.s0 < 18446744073709551616
  h1 : a.s1 < 18446744073709551616
theorem acc_ok {n : Nat} {st : Nat → Nd} {i : Nat} (hi : i ≤ n) (k0 : KidOk n st i (st i).k0) (j : Nat) (hj : j < 2) : AccOk n (acc st i j) 70001 := by
  have h0 : AccOk n (ref0 st i) 1 := ⟨Nat.le_refl _, hi, by show hiV _ < _; unfold hiV; split <;> omega, by show loV _ < _; unfold loV; omega⟩
  rcases j with _ | _ | j
  · exact ⟨Nat.le_trans h0.size (by omega), h0.first, h0.h0, h0.h1⟩
  · show AccOk n (addK st (ref0 st i) (st i).k0) 70001
    unfold addK
    split
    · exact ⟨Nat.le_trans h0.size (by omega), h0.first, h0.h0, h0.h1⟩
    · refine ⟨?_, ?_, Nat.mod_lt _ (by omega), Nat.mod_lt _ (by omega)⟩
      · have := h0.size; have := k0.size; show (ref0 st i).size + (st (st i).k0).size ≤ 70001; omega
      · show (if _ then (st (st i).k0).first else (ref0 st i).first) ≤ n
        split
        · exact k0.first
        · exact h0.first
  · omega
theorem acc_succ (st : Nat → Nd) (i j : Nat) (hj : j < 2) : acc st i (j + 1) = addK st (acc st i j) (kk st i j) := by
  rcases j with _ | _ | j
  · rfl
  · rfl
  · omega
theorem acc_v (st : Nat → Nd) (i j : Nat) : (acc st i j).v = (st i).v := by
  rcases j with _ | _ | j
  · rfl
  · exact (addK_keep _ _ _).2.2.2.2
  · exact (refreshN_keep _ _).2.2.2.2
theorem acc_kids (st : Nat → Nd) (i j : Nat) : (acc st i j).k0 = (st i).k0 ∧ (acc st i j).k1 = (st i).k1 := by
  rcases j with _ | _ | j
  · exact ⟨rfl, rfl⟩
  · exact ⟨(addK_keep _ _ _).1, (addK_keep _ _ _).2.1⟩
  · exact ⟨(refreshN_keep _ _).1, (refreshN_keep _ _).2.1⟩
set_option maxRecDepth 100000 in
set_option maxHeartbeats 1000000 in
theorem refresh_ok (b s n : Nat) (st : Nat → Nd) (i : Nat) (w : World) (h : SP w b s n st) (hn : n ≤ 65536) (hi : i ≤ n) (hv : Fits (st i).v) (k0 : KidOk n st i (st i).k0) (k1 : KidOk n st i (st i).k1) :
    Calls Try.prog 42 #[.pointer (some ⟨b, 0, none⟩), .int .i64 i] w fun e w' => e = .returned (.tuple #[]) ∧ SP w' b s n (refreshF st i) ∧ Turns (· = s) w w' := by
  obtain ⟨c, h1, h2, h3⟩ := h.cell1
  have hin : (i : Int) < (n : Int) + 1 := by omega
  have c5 : w.cell? ⟨s, i * 9 + 5, none⟩ = some (.int .i64 ((st i).size : Int)) := h.2.cell hi 5 (by decide)
  have c6 : w.cell? ⟨s, i * 9 + 6, none⟩ = some (.int .i64 ((st i).first : Int)) := h.2.cell hi 6 (by decide)
  have f5 := h.2.frozen (i * 9 + 5)
  have f6 := h.2.frozen (i * 9 + 6)
  have S1 := h.set_ hi (f := 5) (by decide) (fld_size (st i) 1).1 (fld_size (st i) 1).2
  have S2 := S1.set_ hi (f := 6) (by decide) (u := .int .i64 (i : Int)) (nd := { st i with size := 1, first := i }) rfl (fun g hg hg0 => by rw [put_at]; exact (fld_first { st i with size := 1 } i).2 g hg hg0)
  rw [put_put] at S2
  have Q2 := ((Turns.refl (· = s) w).setCell (p := ⟨s, i * 9 + 5, none⟩) (Or.inr rfl) (.int .i64 1)).setCell (p := ⟨s, i * 9 + 6, none⟩) (Or.inr rfl) (.int .i64 (i : Int))
  obtain ⟨W2, hW2⟩ : ∃ W2, (w.setCell ⟨s, i * 9 + 5, none⟩ (.int .i64 1)).setCell ⟨s, i * 9 + 6, none⟩ (.int .i64 (i : Int)) = W2 := ⟨_, rfl⟩
  have S2 : SP ((w.setCell ⟨s, i * 9 + 5, none⟩ (.int .i64 1)).setCell ⟨s, i * 9 + 6, none⟩ (.int .i64 (i : Int))) b s n (put st i { st i with size := 1, first := i }) := S2
  rw [hW2] at S2 Q2
  have HW2 := Lib.hid hW2
  clear hW2 S1
  have K0 := Lib.hid k0
  have K1 := Lib.hid k1
  clear k0 k1
  obtain ⟨v, hv0⟩ : ∃ v, (st i).v = v := ⟨_, rfl⟩
  rw [hv0] at hv
  have HV := Lib.hid hv0
  have c4 : W2.cell? ⟨s, i * 9 + 4, none⟩ = some (.int .i64 v) := by have := S2.2.cell hi 4 (by decide); rw [put_at] at this; rw [← hv0]; exact this
  have c7 : W2.cell? ⟨s, i * 9 + 7, none⟩ = some (.int .u64 ((st i).s0 : Int)) := by have := S2.2.cell hi 7 (by decide); rw [put_at] at this; exact this
  have c8 : W2.cell? ⟨s, i * 9 + 8, none⟩ = some (.int .u64 ((st i).s1 : Int)) := by have := S2.2.cell hi 8 (by decide); rw [put_at] at this; exact this
  have f7 := S2.2.frozen (i * 9 + 7)
  have f8 := S2.2.frozen (i * 9 + 8)
  have f7 := S2.2.frozen (i * 9 + 7)
  have f8 := S2.2.frozen (i * 9 + 8)
  have hw1 := wrap_hi hv.1 hv.2
  have hw2 := wrap_lo v
  have S3 := (S2.set_ hi (f := 7) (by decide) (u := .int .u64 (hiV v : Int)) (nd := { { st i with size := 1, first := i } with s0 := hiV v }) rfl (fun g hg hg0 => by rw [put_at]; exact (fld_s0 _ _).2 g hg hg0)).set_ hi (f := 8) (by decide) (u := .int .u64 (loV v : Int)) (nd := ref0 st i) (by rw [← hv0]; rfl) (fun g hg hg0 => by rw [put_at, ← hv0]; exact (fld_s1 { { st i with size := 1, first := i } with s0 := hiV (st i).v } (loV (st i).v)).2 g hg hg0)
  rw [put_put, put_put] at S3
  have Q3 := (Q2.setCell (p := ⟨s, i * 9 + 7, none⟩) (Or.inr rfl) (.int .u64 (hiV v : Int))).setCell (p := ⟨s, i * 9 + 8, none⟩) (Or.inr rfl) (.int .u64 (loV v : Int))
  have S3 : SP ((W2.setCell ⟨s, i * 9 + 7, none⟩ (.int .u64 (hiV v : Int))).setCell ⟨s, i * 9 + 7 + 1, none⟩ (.int .u64 (loV v : Int))).drew b s n (put st i (acc st i 0)) := S3
  have Q3 : Turns (· = s) w ((W2.setCell ⟨s, i * 9 + 7, none⟩ (.int .u64 (hiV v : Int))).setCell ⟨s, i * 9 + 7 + 1, none⟩ (.int .u64 (loV v : Int))).drew := Q3.drew
  clear S2 Q2
  obtain ⟨W4, hW4⟩ : ∃ W4, ((W2.setCell ⟨s, i * 9 + 7, none⟩ (.int .u64 (hiV v : Int))).setCell ⟨s, i * 9 + 7 + 1, none⟩ (.int .u64 (loV v : Int))).drew = W4 := ⟨_, rfl⟩
  rw [hW4] at S3 Q3
  have HW4 := Lib.hid hW4
  clear hv0 h hW4
  go_enter Try.func42, Try.ntmps42
  go_upto_region 2 with fail
  rw [HW2.out]
  clear c5 c6 f5 f6
  go_region
  rw [HW4.out]
  clear c4 c7 c8 f7 f8 h1 HW2 HW4 hw1 hw2
  have c0 : W4.cell? ⟨s, i * 9, none⟩ = some (.int .i64 ((st i).k0 : Int)) := by have := S3.2.cell hi 0 (by decide); rw [put_at] at this; exact this
  have c1 : W4.cell? ⟨s, i * 9 + 1, none⟩ = some (.int .i64 ((st i).k1 : Int)) := by have := S3.2.cell hi 1 (by decide); rw [put_at] at this; exact this
  have HI := Lib.hid (show ∀ j : Nat, j < 2 → ∀ w, (Instr.index 70 (.agg #[.int .i64 ((st i).k0 : Int), .int .i64 ((st i).k1 : Int)]) (.int .i64 (j : Int))).run Try.prog w = .ok (.int .i64 (kk st i j : Int)) w from fun j hj w => by
    rcases j with _ | _ | j
    · exact (idx70 _ _ w).1
    · exact (idx70 _ _ w).2
    · omega)
  have HK := Lib.hid (show ∀ j, j < 2 → KidOk n st i (kk st i j) from fun j hj => by
    rcases j with _ | _ | j
    · exact K0.out
    · exact K1.out
    · omega)
  have HA := Lib.hid (fun j hj => acc_ok (n := n) (st := st) hi K0.out j hj)
  generalize ((st i).k0 : Int) = a0 at *
  generalize ((st i).k1 : Int) = a1 at *
  clear K0 K1
  go_upto_region 4 with fail
  clear c0 c1
  go_loopw [41, 6, 7, 8] (fun vj _ _ _ wr => ∃ j : Nat, vj = .int .i64 j ∧ j ≤ 2 ∧ SP wr b s n (put st i (acc st i j)) ∧ Turns (· = s) w wr) (fun vj _ _ _ _ => 2 - (intOf vj).toNat)
  case atStart => exact ⟨0, rfl, by omega, S3, Q3⟩
  case round =>
    clear S3 Q3
    obtain ⟨j, rfl, hj, hS, hQ⟩ := hrel
    by_cases hlt : j < 2
    · have hj2 : (j : Int) < 2 := by omega
      have i0 := HI.out j hlt wr
      obtain ⟨kle, kne, ksz, kfi, kh0, kh1⟩ := HK.out j hlt
      obtain ⟨asz, afi, ah0, ah1⟩ := HA.out j hlt
      have AE := Lib.hid (acc_succ st i j hlt)
      have AV := Lib.hid (acc_v st i j)
      generalize kk st i j = k at *
      generalize acc st i j = a at *
      by_cases hk : k = 0
      · subst hk
        have e : addK st a 0 = a := by unfold addK; rw [if_pos rfl]
        have hS : SP wr b s n (put st i (acc st i (j + 1))) := by rw [AE.out, e]; exact hS
        clear e
        go_wp2_with fail
        go_roundw
        case rel => exact ⟨j + 1, by simp, by omega, hS, hQ⟩
        case measure => simp [intOf]; omega
      · have hk1 : ((k : Int) == 0) = false := by simp; omega
        have hk2 : ¬ (k : Int) = 0 := by omega
        have hkn : (k : Int) < (n : Int) + 1 := by omega
        obtain ⟨c', h1, h2', h3'⟩ := hS.cell1
        have hki := kne hk
        -- the sizes
        have c5 : wr.cell? ⟨s, i * 9 + 5, none⟩ = some (.int .i64 (a.size : Int)) := by have := hS.2.cell hi 5 (by decide); rw [put_at] at this; exact this
        have d5 : wr.cell? ⟨s, k * 9 + 5, none⟩ = some (.int .i64 ((st k).size : Int)) := by have := hS.2.cell kle 5 (by decide); rw [put_ne _ _ hki] at this; exact this
        have f5 := hS.2.frozen (i * 9 + 5)
        obtain ⟨A1, hA1⟩ : ∃ A1 : Nd, A1 = { a with size := a.size + (st k).size } := ⟨_, rfl⟩
        have S1 := hS.set_ hi (f := 5) (by decide) (u := .int .i64 ((a.size : Int) + ((st k).size : Int))) (nd := A1) (by rw [hA1]; rfl) (fun g hg hg0 => by rw [put_at, hA1]; exact (fld_size _ _).2 g hg hg0)
        rw [put_put] at S1
        have Q1 := (hQ.setCell (p := ⟨s, i * 9 + 5, none⟩) (Or.inr rfl) (.int .i64 ((a.size : Int) + ((st k).size : Int)))).drew
        have S1 : SP (wr.setCell ⟨s, i * 9 + 5, none⟩ (.int .i64 ((a.size : Int) + ((st k).size : Int)))).drew b s n (put st i A1) := S1
        have hw5 : IntKind.i64.wrap ((a.size : Int) + ((st k).size : Int)) = (a.size : Int) + ((st k).size : Int) := by rw [IntKind.wrap_i64]; omega
        obtain ⟨W1, hW1⟩ : ∃ W1, (wr.setCell ⟨s, i * 9 + 5, none⟩ (.int .i64 ((a.size : Int) + ((st k).size : Int)))).drew = W1 := ⟨_, rfl⟩
        rw [hW1] at S1 Q1
        have HW1 := Lib.hid hW1
        clear hW1 hS hQ
        go_upto_region 8 with fail
        go_region
        rw [HW1.out]
        clear c5 d5 f5 hw5 HW1 h1
        -- the first
        have c6 : W1.cell? ⟨s, i * 9 + 6, none⟩ = some (.int .i64 (a.first : Int)) := by have := S1.2.cell hi 6 (by decide); rw [put_at, hA1] at this; exact this
        have d6 : W1.cell? ⟨s, k * 9 + 6, none⟩ = some (.int .i64 ((st k).first : Int)) := by have := S1.2.cell kle 6 (by decide); rw [put_ne _ _ hki] at this; exact this
        have hbe : bef (fun j => (put st i A1 j).v) (st k).first a.first = bef (fun j => (st j).v) (st k).first a.first := by
          have : ∀ j, (put st i A1 j).v = (st j).v := fun j => by
            by_cases e : j = i
            · rw [e, put_at, hA1]; exact AV.out
            · rw [put_ne _ _ e]
          exact bef_congr (this _) (this _)
        obtain ⟨r, hr⟩ : ∃ r, bef (fun j => (st j).v) (st k).first a.first = r := ⟨_, rfl⟩
        have xb : ∀ m, Calls Try.prog 59 #[.pointer (some ⟨b, 0, none⟩), .int .i64 ((st k).first : Int), .int .i64 (a.first : Int)] (W1.drewN m) fun e w' => e = .returned (.bool r) ∧ ∃ m', w' = (W1.drewN m).drewN m' := fun m => by
          have := before_ok b s n (put st i A1) (st k).first a.first (W1.drewN m) (S1.drewN m) hn kfi afi
          rw [hbe, hr] at this
          exact this
        have XB := Lib.hid xb
        clear xb hbe
        go_upto_region 9 with fail
        go_quiet ((go_at_call 59; exact Calls.quiet_of (XB.out _)))
        have S2 := S1.drewN nq
        have Q2 := Q1.drewN nq
        obtain ⟨W2, hW2⟩ : ∃ W2, W1.drewN nq = W2 := ⟨_, rfl⟩
        rw [hW2] at S2 Q2 ⊢
        clear XB S1 Q1 hW2 c6 d6
        obtain ⟨A2, hA2⟩ : ∃ A2 : Nd, A2 = { A1 with first := if r = true then (st k).first else a.first } := ⟨_, rfl⟩
        have c6 : W2.cell? ⟨s, i * 9 + 6, none⟩ = some (.int .i64 (a.first : Int)) := by have := S2.2.cell hi 6 (by decide); rw [put_at, hA1] at this; exact this
        have d6 : W2.cell? ⟨s, k * 9 + 6, none⟩ = some (.int .i64 ((st k).first : Int)) := by have := S2.2.cell kle 6 (by decide); rw [put_ne _ _ hki] at this; exact this
        have f6 := S2.2.frozen (i * 9 + 6)
        have HA1 := Lib.hid hA1
        have HA2 := Lib.hid hA2
        have HR := Lib.hid hr
        have S3 : SP (if r = true then W2.setCell ⟨s, i * 9 + 6, none⟩ (.int .i64 ((st k).first : Int)) else W2) b s n (put st i A2) := by
          cases r with
          | true =>
            rw [if_pos rfl]
            have := S2.set_ hi (f := 6) (by decide) (u := .int .i64 ((st k).first : Int)) (nd := A2) (by rw [hA2]; rfl) (fun g hg hg0 => by rw [put_at, hA2]; exact (fld_first _ _).2 g hg hg0)
            rw [put_put] at this
            exact this
          | false =>
            rw [if_neg (by decide)]
            have e : A2 = A1 := by rw [hA2, hA1]; rfl
            rw [e]
            exact S2
        have Q3 : Turns (· = s) w (if r = true then W2.setCell ⟨s, i * 9 + 6, none⟩ (.int .i64 ((st k).first : Int)) else W2) := by
          cases r with
          | true => rw [if_pos rfl]; exact Q2.setCell (p := ⟨s, i * 9 + 6, none⟩) (Or.inr rfl) _
          | false => rw [if_neg (by decide)]; exact Q2
        obtain ⟨W3, hW3⟩ : ∃ W3, (if r = true then W2.setCell ⟨s, i * 9 + 6, none⟩ (.int .i64 ((st k).first : Int)) else W2) = W3 := ⟨_, rfl⟩
        rw [hW3] at S3 Q3
        have HW3 := Lib.hid hW3
        clear hA1 hA2 hr hW3 S2 Q2
        -- the sums
        have hA2s : A2.s0 = a.s0 ∧ A2.s1 = a.s1 := by rw [HA2.out, HA1.out]; exact ⟨rfl, rfl⟩
        have e8 : W3.cell? ⟨s, i * 9 + 8, none⟩ = some (.int .u64 (a.s1 : Int)) := by have := S3.2.cell hi 8 (by decide); rw [put_at] at this; rw [← hA2s.2]; exact this
        have g8 : W3.cell? ⟨s, k * 9 + 8, none⟩ = some (.int .u64 ((st k).s1 : Int)) := by have := S3.2.cell kle 8 (by decide); rw [put_ne _ _ hki] at this; exact this
        have f8 := S3.2.frozen (i * 9 + 8)
        obtain ⟨X, hX⟩ : ∃ X : Nat, (a.s1 + (st k).s1 + 0) % 18446744073709551616 = X := ⟨_, rfl⟩
        obtain ⟨Y, hY⟩ : ∃ Y : Nat, (a.s1 + (st k).s1 + 0) / 18446744073709551616 = Y := ⟨_, rfl⟩
        have hadd : ∀ w, (callFunc 60 #[.int .u64 (a.s1 : Int), .int .u64 ((st k).s1 : Int), .int .u64 0]).run Try.prog w = .ok (.value (.tuple #[.int .u64 (X : Int), .int .u64 (Y : Int)])) w := fun w => by
          have := Try.bits_Add64 a.s1 (st k).s1 0 (by decide) w
          rw [hX, hY] at this
          exact this
        have HXY := Lib.hid (And.intro hX hY)
        obtain ⟨A3, hA3⟩ : ∃ A3 : Nd, A3 = { A2 with s1 := X } := ⟨_, rfl⟩
        have S4 := S3.set_ hi (f := 8) (by decide) (u := .int .u64 (X : Int)) (nd := A3) (by rw [hA3]; rfl) (fun g hg hg0 => by rw [put_at, hA3]; exact (fld_s1 _ _).2 g hg hg0)
        rw [put_put] at S4
        have S4 : SP (W3.setCell ⟨s, i * 9 + 7 + 1, none⟩ (.int .u64 (X : Int))).drew b s n (put st i A3) := S4
        have Q4 : Turns (· = s) w (W3.setCell ⟨s, i * 9 + 7 + 1, none⟩ (.int .u64 (X : Int))).drew := (Q3.setCell (p := ⟨s, i * 9 + 8, none⟩) (Or.inr rfl) (.int .u64 (X : Int))).drew
        obtain ⟨W5, hW5⟩ : ∃ W5, (W3.setCell ⟨s, i * 9 + 7 + 1, none⟩ (.int .u64 (X : Int))).drew = W5 := ⟨_, rfl⟩
        rw [hW5] at S4 Q4
        have HW5 := Lib.hid hW5
        have HA3 := Lib.hid hA3
        clear hW5 hA3 S3 Q3 hX hY hA2s
        have e7 : W5.cell? ⟨s, i * 9 + 7, none⟩ = some (.int .u64 (a.s0 : Int)) := by have := S4.2.cell hi 7 (by decide); rw [put_at, HA3.out, HA2.out, HA1.out] at this; exact this
        have g7 : W5.cell? ⟨s, k * 9 + 7, none⟩ = some (.int .u64 ((st k).s0 : Int)) := by have := S4.2.cell kle 7 (by decide); rw [put_ne _ _ hki] at this; exact this
        have f7' := S4.2.frozen (i * 9 + 7)
        have hY1 : Y ≤ 1 := by have := HXY.out.2; omega
        obtain ⟨U, hU⟩ : ∃ U : Nat, (a.s0 + (st k).s0 + Y) % 18446744073709551616 = U := ⟨_, rfl⟩
        obtain ⟨Z, hZ⟩ : ∃ Z : Nat, (a.s0 + (st k).s0 + Y) / 18446744073709551616 = Z := ⟨_, rfl⟩
        have hadd2 : ∀ w, (callFunc 60 #[.int .u64 (a.s0 : Int), .int .u64 ((st k).s0 : Int), .int .u64 (Y : Int)]).run Try.prog w = .ok (.value (.tuple #[.int .u64 (U : Int), .int .u64 (Z : Int)])) w := fun w => by
          have := Try.bits_Add64 a.s0 (st k).s0 Y hY1 w
          rw [hU, hZ] at this
          exact this
        have hfin : acc st i (j + 1) = { A3 with s0 := U } := by
          rw [AE.out, HA3.out, HA2.out, HA1.out, ← hU, ← HXY.out.1, ← HXY.out.2]
          unfold addK
          rw [if_neg hk, HR.out]
        have HFI := Lib.hid hfin
        have S6 := S4.set_ hi (f := 7) (by decide) (u := .int .u64 (U : Int)) (nd := acc st i (j + 1)) (by rw [hfin]; rfl) (fun g hg hg0 => by rw [put_at, hfin]; exact (fld_s0 _ _).2 g hg hg0)
        rw [put_put] at S6
        have S6 : SP (W5.setCell ⟨s, i * 9 + 7, none⟩ (.int .u64 (U : Int))).drew b s n (put st i (acc st i (j + 1))) := S6
        have Q6 := (Q4.setCell (p := ⟨s, i * 9 + 7, none⟩) (Or.inr rfl) (.int .u64 (U : Int))).drew
        obtain ⟨W6, hW6⟩ : ∃ W6, (W5.setCell ⟨s, i * 9 + 7, none⟩ (.int .u64 (U : Int))).drew = W6 := ⟨_, rfl⟩
        rw [hW6] at S6 Q6
        have HW6 := Lib.hid hW6
        clear hW6 hU hZ hfin S4 Q4
        obtain ⟨aj, haj⟩ : ∃ aj, aj = acc st i (j + 1) := ⟨_, rfl⟩
        rw [← haj] at S6
        have HSJ := Lib.hid haj
        clear haj
        cases r with
        | true =>
          have HW3 := Lib.hid (show W2.setCell ⟨s, i * 9 + 6, none⟩ (.int .i64 ((st k).first : Int)) = W3 from HW3.out)
          go_upto_region 11 with fail
          rw [HW3.out]
          clear c6 d6 f6
          go_upto_region 12 with fail
          go_region
          rw [HW5.out]
          clear e8 g8 f8 hadd
          go_upto_region 13 with fail
          go_region
          rw [HW6.out]
          clear e7 g7 f7' hadd2
          go_wp2_with fail
          go_roundw
          case rel => exact ⟨j + 1, by simp, by omega, HSJ.out ▸ S6, Q6⟩
          case measure => simp [intOf]; omega
        | false =>
          have HW3 := Lib.hid (show W2 = W3 from HW3.out)
          go_upto_region 11 with fail
          rw [HW3.out]
          clear c6 d6 f6
          go_upto_region 12 with fail
          go_region
          rw [HW5.out]
          clear e8 g8 f8 hadd
          go_upto_region 13 with fail
          go_region
          rw [HW6.out]
          clear e7 g7 f7' hadd2
          go_wp2_with fail
          go_roundw
          case rel => exact ⟨j + 1, by simp, by omega, HSJ.out ▸ S6, Q6⟩
          case measure => simp [intOf]; omega
    · obtain rfl : j = 2 := by omega
      have HS := Lib.hid (And.intro hS hQ)
      clear hS hQ
      go_wp2_with fail
      go_end0
      exact ⟨rfl, HS.out.1, HS.out.2⟩
end Go.Proofs.Ytgichkjomhnehaa
