/-
  Sum.
-/
import Derived.Test.YtgichkjomhnehaaW15
set_option linter.unusedVariables false
set_option linter.unusedSimpArgs false
namespace Go.Proofs.Ytgichkjomhnehaa
open Go.RowKit Go.Shelf

def sumV (T : Int) : Int := if Fits T then T else 0
def sumE (T : Int) : Int := if Fits T then 0 else 7
theorem tot_bound {U : Nat → Int} : ∀ {l : List Nat}, (∀ y ∈ l, Fits (U y)) → -(9223372036854775808 * (l.length : Int)) ≤ tot U l ∧ tot U l ≤ 9223372036854775808 * (l.length : Int)
  | [], _ => by simp [tot]
  | y :: l, h => by
    have h1 := tot_bound (U := U) (l := l) (fun z hz => h z (by simp [hz]))
    have h2 := h y (by simp)
    rw [tot_cons]
    unfold Fits at h2
    simp only [List.length_cons]
    omega
theorem tot_map {V U : Nat → Int} {l : List Nat} (h : ∀ y ∈ l, V (y + 1) = U y) : tot V (l.map (· + 1)) = tot U l := by
  unfold tot
  rw [List.map_map]
  congr 1
  exact List.map_congr_left fun y hy => h y hy
theorem sum_words {s0 s1 : Nat} {T : Int} (h0 : s0 < 18446744073709551616) (h1 : s1 < 18446744073709551616) (hs : ((s0 * 18446744073709551616 + s1 : Nat) : Int) = T % 340282366920938463463374607431768211456) (hT : -(9223372036854775808 * 65536) ≤ T ∧ T ≤ 9223372036854775808 * 65536) :
    (Fits T → ((s1 : Int) + 9223372036854775808) % 18446744073709551616 - 9223372036854775808 = T ∧ s0 = hiV T) ∧ (¬ Fits T → s0 ≠ hiV (((s1 : Int) + 9223372036854775808) % 18446744073709551616 - 9223372036854775808)) := by
  unfold Fits hiV
  constructor
  · intro h
    split <;> omega
  · intro h
    split <;> omega
theorem Up.sum {w : World} {b s n x : Nat} {Q : Nat → List Nat} {U : Nat → Int} {st : Nat → Nd} {V : Nat → Int} {S : Nat → List Nat} {l r : T} {F : List T} (h : Up w b s n Q U x st V S l r F) :
    (st (x + 1)).s0 < 18446744073709551616 ∧ (st (x + 1)).s1 < 18446744073709551616 ∧ (((st (x + 1)).s0 * 18446744073709551616 + (st (x + 1)).s1 : Nat) : Int) = tot U (Q x) % 340282366920938463463374607431768211456 ∧ -(9223372036854775808 * 65536) ≤ tot U (Q x) ∧ tot U (Q x) ≤ 9223372036854775808 * 65536 := by
  have ha := h.rep.1.2.2.2.2.2.2
  have hab := h.sq.abs h.at_
  have e : tot V (l.ids ++ (x + 1) :: r.ids) = tot U (Q x) := by
    have hp := T.seq_perm (.node l (x + 1) false r)
    have : tot V (T.node l (x + 1) false r).seq = tot V (l.ids ++ (x + 1) :: r.ids) := tot_perm hp
    rw [← this, show (T.node l (x + 1) false r).seq = l.seq ++ (x + 1) :: r.seq from rfl, ← h.seq]
    exact tot_map fun y hy => h.2.2.2.2.2 y (hab.2.2 y hy).1
  have hb := tot_bound (U := U) (l := Q x) (fun y hy => h.sq.fit (hab.2.2 y hy).1)
  have hl := h.len
  have hn := h.1
  refine ⟨ha.h0, ha.h1, by rw [← e]; exact ha.sum, by omega, by omega⟩
set_option maxRecDepth 100000 in
theorem sum_ok (b s n : Nat) (Q : Nat → List Nat) (U : Nat → Int) (x : Nat) (w : World) (h : SQ w b s n Q U) (hx : x < n) :
    Calls Try.prog 23 #[.pointer (some ⟨b, 0, none⟩), .int .i64 (x : Int)] w fun e w' => e = .returned (.tuple #[.int .i64 (sumV (tot U (Q x))), .int .i64 (sumE (tot U (Q x)))]) ∧ SQ w' b s n Q U ∧ Turns (· = s) w w' := by
  have hn := h.1
  have x0 := chk1_in h (fits_nat hx hn) (hasB_nat hx)
  unfold Chk1 at x0
  have q := below_new1 w (.cells #[.int .i64 (x : Int)] 3)
  have x1 := liftQ_ok b s n Q U x _ (h.below q) hx
  have hT0 := Turns.of_below q (· = s)
  obtain ⟨T, hTd⟩ : ∃ T, tot U (Q x) = T := ⟨_, rfl⟩
  rw [hTd]
  have HTD := Lib.hid hTd
  clear hTd
  go_enter Try.func23, Try.ntmps23
  go_wp2_with fail
  refine x0.mono ?_
  rintro e w' ⟨rfl, rfl⟩
  clear x0 q
  generalize w.alloc (.cells #[.int .i64 (x : Int)] 3) = W0 at *
  go_wp2_with fail
  refine x1.mono ?_
  rintro e w1 ⟨rfl, ⟨st, V, S, l, r, F, hU⟩, hT⟩
  have hT := hT0.trans hT
  have hx1 : x + 1 ≤ n := by omega
  have c7 : w1.cell? ⟨s, (x + 1) * 9 + 7, none⟩ = some (.int .u64 ((st (x + 1)).s0 : Int)) := hU.2.1.2.cell hx1 7 (by decide)
  have c8 : w1.cell? ⟨s, (x + 1) * 9 + 7 + 1, none⟩ = some (.int .u64 ((st (x + 1)).s1 : Int)) := hU.2.1.2.cell hx1 8 (by decide)
  have hsum := hU.sum
  rw [HTD.out] at hsum
  have HQ := Lib.hid hU.sq
  generalize (st (x + 1)).s0 = s0 at *
  generalize (st (x + 1)).s1 = s1 at *
  obtain ⟨g0, g1, g2, g3⟩ := hsum
  have hW := sum_words g0 g1 g2 g3
  have kb := below_new1 w1 (.cells #[.int .u64 (s0 : Int), .int .u64 (s1 : Int)] 72)
  have hT2 := hT.alloc (.cells #[.int .u64 (s0 : Int), .int .u64 (s1 : Int)] 72)
  have kk := Blk.new w1 72 #[.int .u64 (s0 : Int), .int .u64 (s1 : Int)]
  have hQ2 := Lib.hid (HQ.out.below kb)
  obtain ⟨v, hv⟩ : ∃ v, ((s1 : Int) + 9223372036854775808) % 18446744073709551616 - 9223372036854775808 = v := ⟨_, rfl⟩
  rw [hv] at hW
  have hw1 : IntKind.i64.wrap (s1 : Int) = v := by rw [IntKind.wrap_i64]; exact hv
  have hvb : -9223372036854775808 ≤ v ∧ v ≤ 9223372036854775807 := by omega
  have hw2 := wrap_hi hvb.1 hvb.2
  have HW := Lib.hid hW
  clear hU x1 hT0 hT kb hW g0 g1 g2 g3 hv
  go_upto_region 5 with fail
  clear c7 c8
  generalize w1.alloc (.cells #[.int .u64 (s0 : Int), .int .u64 (s1 : Int)] 72) = W2 at *
  have k0 := kk.cell 0
  have k1 := kk.cell 1
  simp at k0 k1
  obtain ⟨hi, hhi⟩ : ∃ hi, hiV v = hi := ⟨_, rfl⟩
  rw [hhi] at hw2
  by_cases hf : Fits T
  · obtain ⟨e1, e2⟩ := HW.out.1 hf
    subst e1
    rw [hhi] at e2
    subst e2
    have HE := Lib.hid (show sumV v = v ∧ sumE v = 0 from ⟨if_pos hf, if_pos hf⟩)
    clear hf hhi HW
    go_wp2_with fail
    go_ret2
    exact ⟨by rw [HE.out.1, HE.out.2]; rfl, hQ2.out, hT2⟩
  · have e2 := HW.out.2 hf
    rw [hhi] at e2
    have e3 : ((s0 : Int) == (hi : Int)) = false := not_eq_nat e2
    have e4 : ¬ (s0 : Int) = (hi : Int) := by omega
    have HE := Lib.hid (show sumV T = 0 ∧ sumE T = 7 from ⟨if_neg hf, if_neg hf⟩)
    clear hf hhi HW e2
    go_wp2_with fail
    go_ret2
    exact ⟨by rw [HE.out.1, HE.out.2]; rfl, hQ2.out, hT2⟩
end Go.Proofs.Ytgichkjomhnehaa
