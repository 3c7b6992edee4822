/-
  The document's integers: digits, and what they are worth.
-/
import Derived.Test.YtipniooflaiikaaC6
import Derived.Deep.QuietTactic
import Derived.BigQuiet
import Derived.Deep.DeepCutAuto
set_option linter.unusedVariables false
set_option linter.unusedSimpArgs false
namespace Go.Proofs.Ytipniooflaiikaa
open Go.RowKit Go.Shelf

/-- the cells of six digits -/
def six (f : Nat → Int) : Array Value := #[.int .u64 (f 0), .int .u64 (f 1), .int .u64 (f 2), .int .u64 (f 3), .int .u64 (f 4), .int .u64 (f 5)]
/-- the cells of an integer: its sign and its digits -/
def wide (b : Bool) (f : Nat → Int) : Array Value := #[.bool b, .int .u64 (f 0), .int .u64 (f 1), .int .u64 (f 2), .int .u64 (f 3), .int .u64 (f 4), .int .u64 (f 5)]
def put (f : Nat → Int) (j : Nat) (v : Int) : Nat → Int := fun i => if i = j then v else f i
theorem put_at (f : Nat → Int) (j : Nat) (v : Int) : put f j v j = v := if_pos rfl
theorem put_ne (f : Nat → Int) {i j : Nat} (v : Int) (h : i ≠ j) : put f j v i = f i := if_neg h
theorem six_get (f : Nat → Int) {j : Nat} (h : j < 6) : (six f)[j]? = some (.int .u64 (f j)) := by
  rcases j with _ | _ | _ | _ | _ | _ | j <;> first | rfl | omega
theorem six_set (f : Nat → Int) {j : Nat} (h : j < 6) (v : Int) : (six f).setIfInBounds j (.int .u64 v) = six (put f j v) := by
  rcases j with _ | _ | _ | _ | _ | _ | j <;> first | rfl | omega
theorem wide_get (b : Bool) (f : Nat → Int) {j : Nat} (h : j < 6) : (wide b f)[1 + j]? = some (.int .u64 (f j)) := by
  rcases j with _ | _ | _ | _ | _ | _ | j <;> first | rfl | omega
theorem wide_set (b : Bool) (f : Nat → Int) {j : Nat} (h : j < 6) (v : Int) : (wide b f).setIfInBounds (1 + j) (.int .u64 v) = wide b (put f j v) := by
  rcases j with _ | _ | _ | _ | _ | _ | j <;> first | rfl | omega
theorem six_ext {f g : Nat → Int} (h : ∀ j, j < 6 → f j = g j) : six f = six g := by
  unfold six; rw [h 0 (by decide), h 1 (by decide), h 2 (by decide), h 3 (by decide), h 4 (by decide), h 5 (by decide)]
theorem wide_ext {b : Bool} {f g : Nat → Int} (h : ∀ j, j < 6 → f j = g j) : wide b f = wide b g := by
  unfold wide; rw [h 0 (by decide), h 1 (by decide), h 2 (by decide), h 3 (by decide), h 4 (by decide), h 5 (by decide)]

/-- what k digits are worth -/
def psum (f : Nat → Int) : Nat → Int
  | 0 => 0
  | k + 1 => psum f k + f k * 4294967296 ^ k
def mag (f : Nat → Int) : Int := psum f 6
def Digits (f : Nat → Int) : Prop := ∀ j, j < 6 → 0 ≤ f j ∧ f j < 4294967296
theorem pow_pos' (k : Nat) : (0 : Int) < 4294967296 ^ k := Int.pow_pos (by decide)
theorem psum_in {f : Nat → Int} {k : Nat} (h : ∀ j, j < k → 0 ≤ f j ∧ f j < 4294967296) : 0 ≤ psum f k ∧ psum f k < 4294967296 ^ k := by
  induction k with
  | zero => exact ⟨Int.le_refl _, by simp [psum]⟩
  | succ k ih =>
    have h1 := ih (fun j hj => h j (by omega))
    have h2 := h k (by omega)
    have h3 := pow_pos' k
    have h4 : f k * 4294967296 ^ k ≤ 4294967295 * 4294967296 ^ k := Int.mul_le_mul_of_nonneg_right (by omega) (Int.le_of_lt h3)
    have h5 : 0 ≤ f k * 4294967296 ^ k := Int.mul_nonneg h2.1 (Int.le_of_lt h3)
    have h6 : (4294967296 : Int) ^ (k + 1) = 4294967296 * 4294967296 ^ k := by rw [Int.pow_succ, Int.mul_comm]
    simp only [psum]
    rw [h6]
    generalize (4294967296 : Int) ^ k = P at *
    generalize f k * P = X at *
    omega
theorem mag_in {f : Nat → Int} (h : Digits f) : 0 ≤ mag f ∧ mag f < 4294967296 ^ 6 := psum_in h
theorem psum_ext {f g : Nat → Int} {k : Nat} (h : ∀ j, j < k → f j = g j) : psum f k = psum g k := by
  induction k with
  | zero => rfl
  | succ k ih => simp only [psum]; rw [ih (fun j hj => h j (by omega)), h k (by omega)]
theorem psum_put {f : Nat → Int} {j k : Nat} (v : Int) (h : j < k) : psum (put f j v) k = psum f k + (v - f j) * 4294967296 ^ j := by
  induction k with
  | zero => omega
  | succ k ih =>
    simp only [psum]
    rcases Nat.lt_or_ge j k with h1 | h1
    · rw [ih h1, put_ne _ _ (by omega)]; omega
    · obtain rfl : j = k := by omega
      rw [put_at, psum_ext (f := put f j v) (g := f) (fun i hi => put_ne _ _ (by omega)), Int.sub_mul]; omega
theorem mag_put {f : Nat → Int} {j : Nat} (v : Int) (h : j < 6) : mag (put f j v) = mag f + (v - f j) * 4294967296 ^ j := psum_put v h
theorem digits_put {f : Nat → Int} {j : Nat} {v : Int} (h : Digits f) (h0 : 0 ≤ v) (h1 : v < 4294967296) : Digits (put f j v) := fun i hi => by
  by_cases e : i = j
  · subst e; rw [put_at]; exact ⟨h0, h1⟩
  · rw [put_ne _ _ e]; exact h i hi
/-- what an integer is worth -/
def val (b : Bool) (f : Nat → Int) : Int := if b then -(mag f) else mag f
theorem mag_at (f : Nat → Int) : mag f = f 0 + f 1 * 4294967296 + f 2 * 18446744073709551616 + f 3 * 79228162514264337593543950336 + f 4 * 340282366920938463463374607431768211456 + f 5 * 1461501637330902918203684832716283019655932542976 := by
  simp only [mag, psum, Int.pow_zero, Int.mul_one]
  omega

/-- a number as an integer of the document's -/
def fromF (x : Int) : Nat → Int | 0 => (x.natAbs : Int) % 4294967296 | 1 => (x.natAbs : Int) / 4294967296 | _ => 0
theorem from_digits {x : Int} (h : Fits x) : Digits (fromF x) := fun j _ => by
  have := natAbs_lt h
  rcases j with _ | _ | j
  · show 0 ≤ (x.natAbs : Int) % 4294967296 ∧ (x.natAbs : Int) % 4294967296 < 4294967296; omega
  · show 0 ≤ (x.natAbs : Int) / 4294967296 ∧ (x.natAbs : Int) / 4294967296 < 4294967296; omega
  · show (0 : Int) ≤ 0 ∧ (0 : Int) < 4294967296; decide
theorem from_mag (x : Int) : mag (fromF x) = (x.natAbs : Int) := by
  rw [mag_at]
  simp only [fromF]
  omega
theorem from_val (x : Int) : val (decide (x < 0)) (fromF x) = x := by
  unfold val
  rw [from_mag]
  by_cases h : x < 0 <;> simp [h] <;> omega

set_option maxRecDepth 100000 in
set_option maxHeartbeats 1000000 in
theorem from_ok (x : Int) (h : Fits x) (w : World) :
    Calls Try.prog 56 #[.int .i64 x] w fun e w' => e = .returned (.agg (wide (decide (x < 0)) (fromF x))) ∧ Below w.heap.size w w' := by
  obtain ⟨h0, h1⟩ := h
  have hb := fun o o' => below_new2 w o o'
  by_cases p : x < 0
  · have e1 : -(x + 1) + 1 = (x.natAbs : Int) := by omega
    go_enter Try.func56, Try.ntmps56
    go_wp2_with fail
    simp [bodyPost, results, Try.results56, go_sem]
    refine ⟨?_, hb _ _⟩
    rw [decide_yes p]; rfl
  · have e1 := Lib.hid (show x = (x.natAbs : Int) by omega)
    have p' := decide_no p
    have hw : IntKind.u64.wrap x = x := by rw [IntKind.wrap_u64]; omega
    go_enter Try.func56, Try.ntmps56
    go_wp2_with fail
    simp [bodyPost, results, Try.results56, go_sem]
    refine ⟨?_, hb _ _⟩
    unfold wide fromF
    rw [← e1.out]; rfl

/-- the number that an integer is, if it fits -/
def intV (v : Int) : Int := fitV v
def intOk (v : Int) : Bool := decide (Fits v)
theorem mag_top {f : Nat → Int} (h : Digits f) (hz : ¬ (f 2 = 0 ∧ f 3 = 0 ∧ f 4 = 0 ∧ f 5 = 0)) : 18446744073709551616 ≤ mag f := by
  rw [mag_at]
  have h0 := h 0 (by decide); have h1 := h 1 (by decide); have h2 := h 2 (by decide)
  have h3 := h 3 (by decide); have h4 := h 4 (by decide); have h5 := h 5 (by decide)
  omega
theorem mag_low {f : Nat → Int} (hz : f 2 = 0 ∧ f 3 = 0 ∧ f 4 = 0 ∧ f 5 = 0) : mag f = f 1 * 4294967296 + f 0 := by
  rw [mag_at]; omega
theorem val_abs (b : Bool) (f : Nat → Int) : val b f = mag f ∨ val b f = -(mag f) := by unfold val; cases b <;> simp
set_option maxRecDepth 100000 in
set_option maxHeartbeats 2000000 in
theorem int_ok (b : Bool) (f : Nat → Int) (h : Digits f) (w : World) :
    Calls Try.prog 53 #[.agg (wide b f)] w fun e w' => e = .returned (.tuple #[.int .i64 (fitV (val b f)), .bool (decide (Fits (val b f)))]) ∧ Below w.heap.size w w' := by
  have hb := fun o => below_new1 w o
  by_cases hz : f 2 = 0 ∧ f 3 = 0 ∧ f 4 = 0 ∧ f 5 = 0
  · have hm := mag_low hz
    obtain ⟨z2, z3, z4, z5⟩ := hz
    have g0 := h 0 (by decide)
    have g1 := h 1 (by decide)
    cases b
    · have hv : val false f = f 1 * 4294967296 + f 0 := by unfold val; rw [hm]; rfl
      rw [hv]
      clear hm hv h
      unfold wide
      rw [z2, z3, z4, z5]
      generalize f 0 = d0 at *
      generalize f 1 = d1 at *
      by_cases hF : d1 * 4294967296 + d0 ≤ 9223372036854775807
      · have hf : Fits (d1 * 4294967296 + d0) := ⟨by omega, by omega⟩
        rw [fitV_in hf, decide_yes hf]
        clear hf
        go_enter Try.func53, Try.ntmps53
        go_wp2_with fail
        go_ret2
        exact ⟨rfl, hb _⟩
      · have hf : ¬ Fits (d1 * 4294967296 + d0) := fun k => hF k.2
        rw [fitV_out hf, decide_no hf]
        clear hf
        go_enter Try.func53, Try.ntmps53
        go_wp2_with fail
        go_ret2
        exact ⟨rfl, hb _⟩
    · have hv : val true f = -(f 1 * 4294967296 + f 0) := by unfold val; rw [hm]; rfl
      rw [hv]
      clear hm hv h
      unfold wide
      rw [z2, z3, z4, z5]
      generalize f 0 = d0 at *
      generalize f 1 = d1 at *
      by_cases hF : d1 * 4294967296 + d0 ≤ 9223372036854775808
      · have hf : Fits (-(d1 * 4294967296 + d0)) := ⟨by omega, by omega⟩
        rw [fitV_in hf, decide_yes hf]
        clear hf
        by_cases h0 : d1 * 4294967296 + d0 = 0
        · have hd0 : d0 = 0 := by omega
          have hd1 : d1 = 0 := by omega
          subst hd0 hd1
          rw [show -((0 : Int) * 4294967296 + 0) = 0 by decide]
          go_enter Try.func53, Try.ntmps53
          go_wp2_with fail
          go_ret2
          exact ⟨rfl, hb _⟩
        · have h00 : (d1 * 4294967296 + d0 == 0) = false := by simpa using h0
          have hw : wrap64 (d1 * 4294967296 + d0 - 1) = d1 * 4294967296 + d0 - 1 := by unfold wrap64; omega
          rw [show -(d1 * 4294967296 + d0) = -(d1 * 4294967296 + d0 - 1) - 1 by omega]
          go_enter Try.func53, Try.ntmps53
          go_wp2_with fail
          go_ret2
          exact ⟨rfl, hb _⟩
      · have hf : ¬ Fits (-(d1 * 4294967296 + d0)) := fun k => by have := k.1; omega
        rw [fitV_out hf, decide_no hf]
        clear hf
        go_enter Try.func53, Try.ntmps53
        go_wp2_with fail
        go_ret2
        exact ⟨rfl, hb _⟩
  · have hm := mag_top h hz
    have hf : ¬ Fits (val b f) := by
      rcases val_abs b f with e | e <;> rw [e] <;> intro k <;> obtain ⟨k1, k2⟩ := k <;> omega
    rw [fitV_out hf, decide_no hf]
    clear hm hf h
    unfold wide
    generalize f 0 = d0 at *
    generalize f 1 = d1 at *
    generalize f 2 = d2 at *
    generalize f 3 = d3 at *
    generalize f 4 = d4 at *
    generalize f 5 = d5 at *
    go_enter Try.func53, Try.ntmps53
    by_cases z2 : d2 = 0
    · by_cases z3 : d3 = 0
      · by_cases z4 : d4 = 0
        · have z5 : d5 ≠ 0 := fun k => hz ⟨z2, z3, z4, k⟩
          have z5' : (d5 == 0) = false := by simpa using z5
          subst z2 z3 z4
          clear hz
          go_wp2_with fail
          go_ret2
          exact ⟨rfl, hb _⟩
        · have z4' : (d4 == 0) = false := by simpa using z4
          subst z2 z3
          clear hz
          go_wp2_with fail
          go_ret2
          exact ⟨rfl, hb _⟩
      · have z3' : (d3 == 0) = false := by simpa using z3
        subst z2
        clear hz
        go_wp2_with fail
        go_ret2
        exact ⟨rfl, hb _⟩
    · have z2' : (d2 == 0) = false := by simpa using z2
      clear hz
      go_wp2_with fail
      go_ret2
      exact ⟨rfl, hb _⟩


end Go.Proofs.Ytipniooflaiikaa
