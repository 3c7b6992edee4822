/-
  The document's integers: negation, sign, whether it is 0, magnitudes.
-/
import Derived.Test.YtmjchiebpnnbpaaG3
import Derived.ChangeKeysEq
import Derived.Laws.StructEq
set_option linter.unusedVariables false
set_option linter.unusedSimpArgs false
namespace Go.Proofs.Ytmjchiebpnnbpaa
open Go.RowKit Go.Shelf

theorem val_not (b : Bool) (f : Nat → Int) : val (!b) f = -(val b f) := by cases b <;> simp [val]
set_option maxRecDepth 100000 in
set_option maxHeartbeats 1000000 in
theorem negate_ok (b : Bool) (f : Nat → Int) (w : World) :
    Calls Try.prog 42 #[.agg (wide b f)] w fun e w' => e = .returned (.agg (wide (!b) f)) ∧ Below w.heap.size w w' := by
  have hb := fun o o' => below_new2 w o o'
  simp only [wide]
  go_enter Try.func42, Try.ntmps42
  go_wp2_with fail
  simp [bodyPost, results, Try.results42, go_sem]
  exact hb _ _

theorem mag_zero {f : Nat → Int} (h : Digits f) : mag f = 0 ↔ six f = six (fun _ => 0) := by
  have h0 := h 0 (by decide); have h1 := h 1 (by decide); have h2 := h 2 (by decide)
  have h3 := h 3 (by decide); have h4 := h 4 (by decide); have h5 := h 5 (by decide)
  rw [mag_at]
  constructor
  · intro he
    obtain ⟨k0, k1, k2, k3, k4, k5⟩ : f 0 = 0 ∧ f 1 = 0 ∧ f 2 = 0 ∧ f 3 = 0 ∧ f 4 = 0 ∧ f 5 = 0 := by omega
    unfold six; rw [k0, k1, k2, k3, k4, k5]
  · intro he
    simp [six] at he
    omega
def isZ (f : Nat → Int) : Bool := decide (mag f = 0)
theorem eq_step (d : Nat) (xs ys : Array Value) (i : Nat) (is : List Nat) (a b : Int) (ha : xs[i * 1]? = some (.int .u64 a)) (hb : ys[i * 1]? = some (.int .u64 b)) (w : World) :
    (Op.eqItems (d + 1) 42 1 xs ys (i :: is)).run Try.prog w = if a == b then (Op.eqItems (d + 1) 42 1 xs ys is).run Try.prog w else .ok false w := by
  have hp : Try.prog.plainKey 42 = true := by kernel_rfl
  simp only [Op.eqItems, Sem.run_bind, run_part_plain w hp ha, run_part_plain w hp hb, Result.andThen_ok, run_equalIn_int w d 42 .u64 .u64 a b Try.underlying42]
  cases (a == b) <;> simp
theorem eq46 (f g : Nat → Int) (w : World) :
    (Op.equalIn 10000 46 (.agg (six f)) (.agg (six g))).run Try.prog w = .ok (f 0 == g 0 && (f 1 == g 1 && (f 2 == g 2 && (f 3 == g 3 && (f 4 == g 4 && f 5 == g 5))))) w := by
  obtain ⟨i0, hi, _, _, _⟩ := info_parts (P := Try.prog) (e := 42) (z := .int .u64 0) (size := 1) (bytes := 8) (by kernel_rfl)
  rw [show (10000 : Nat) = 9999 + 1 from rfl, run_equalIn_array w 9999 _ _ Try.underlying46 hi]
  have hc : Try.prog.cellsOf 42 = 1 := by kernel_rfl
  rw [hc, show List.range 6 = [0, 1, 2, 3, 4, 5] from rfl]
  rw [eq_step 9998 _ _ 0 _ (f 0) (g 0) rfl rfl, eq_step 9998 _ _ 1 _ (f 1) (g 1) rfl rfl, eq_step 9998 _ _ 2 _ (f 2) (g 2) rfl rfl, eq_step 9998 _ _ 3 _ (f 3) (g 3) rfl rfl, eq_step 9998 _ _ 4 _ (f 4) (g 4) rfl rfl, eq_step 9998 _ _ 5 _ (f 5) (g 5) rfl rfl]
  cases f 0 == g 0 <;> cases f 1 == g 1 <;> cases f 2 == g 2 <;> cases f 3 == g 3 <;> cases f 4 == g 4 <;> cases f 5 == g 5 <;> rfl
theorem isZ_eq {f : Nat → Int} (h : Digits f) : (f 0 == 0 && (f 1 == 0 && (f 2 == 0 && (f 3 == 0 && (f 4 == 0 && f 5 == 0))))) = isZ f := by
  have hz := mag_zero h
  unfold isZ
  have h2 : six f = six (fun _ => 0) ↔ (f 0 = 0 ∧ f 1 = 0 ∧ f 2 = 0 ∧ f 3 = 0 ∧ f 4 = 0 ∧ f 5 = 0) := by simp [six]
  rw [h2] at hz
  rw [Bool.eq_iff_iff]
  simp
  exact hz.symm
set_option maxRecDepth 100000 in
set_option maxHeartbeats 1000000 in
theorem zero_ok (b : Bool) (f : Nat → Int) (h : Digits f) (w : World) :
    Calls Try.prog 52 #[.agg (wide b f)] w fun e w' => e = .returned (.bool (isZ f)) ∧ Below w.heap.size w w' := by
  have hb := fun o o' => below_new2 w o o'
  have hz := Lib.hid (isZ_eq h)
  have he := fun w => eq46 f (fun _ => 0) w
  simp only [wide, six] at he ⊢
  go_enter Try.func52, Try.ntmps52
  go_wp2_with fail
  go_ret
  exact ⟨by rw [← hz.out]; rfl, hb _ _⟩

set_option maxRecDepth 100000 in
set_option maxHeartbeats 1000000 in
theorem magnitude_ok (x : Int) (h : Fits x) (w : World) :
    Calls Try.prog 40 #[.int .i64 x] w fun e w' => e = .returned (.int .u64 (x.natAbs : Int)) ∧ Below w.heap.size w w' := by
  have hx := natAbs_lt h
  have e : (x.natAbs : Int) = fromF x 1 * 4294967296 + fromF x 0 := by simp only [fromF]; omega
  have g0 := from_digits h 0 (by decide)
  have g1 := from_digits h 1 (by decide)
  have HF := fun w => from_ok x h w
  rw [e]
  simp only [wide] at HF
  have gs : fromF x 1 * 4294967296 + fromF x 0 < 18446744073709551616 := by omega
  clear e
  generalize fromF x 0 = d0 at *
  generalize fromF x 1 = d1 at *
  go_enter Try.func40, Try.ntmps40
  go_wp2_with (go_at_call 31; refine (HF _).mono ?_; rintro e w1 ⟨rfl, hv1⟩)
  go_ret
  exact ⟨rfl, hv1.alloc hv1.size _⟩
end Go.Proofs.Ytmjchiebpnnbpaa
