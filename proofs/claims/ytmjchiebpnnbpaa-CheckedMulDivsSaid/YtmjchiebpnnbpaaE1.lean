/-
  The chapter's example of checked: the walk of works.
-/
import Derived.Test.YtmjchiebpnnbpaaD5
import Derived.Test.YtmjchiebpnnbpaaC3
import Derived.Test.YtmjchiebpnnbpaaC4
import Derived.Test.YtmjchiebpnnbpaaOpen
set_option linter.unusedVariables false
set_option linter.unusedSimpArgs false
namespace Go.Proofs.Ytmjchiebpnnbpaa
open Go.RowKit Go.Shelf

theorem fits_wf {x : Int} (h : Fits x) : (Lit.int .i64 x).wf = true := by
  obtain ⟨h0, h1⟩ := h
  simp [Lit.wf, IntKind.min, IntKind.max, IntKind.signed, IntKind.bits]; omega
theorem argI_row {w : World} {g t : Nat} {cs : Array Value} {n : Nat} {z : Nat → Int} (hb : Blk w g t cs) (hn : n ≤ 9223372036854775807) (hc : ∀ i, i < n → cs[i]? = some (.int .i64 (z i))) (hz : ∀ i, i < n → Fits (z i)) : ArgI .i64 w (some ⟨g, 0, none⟩) n n z :=
  ⟨Nat.le_refl _, hn, fun _ => ⟨g, 0, rfl, hb.lt, fun i hi => by rw [Nat.zero_add]; exact (hb.cell i).trans (hc i hi)⟩, fun i hi => fits_wf (hz i hi)⟩
theorem argI_zero {w : World} (A : Option Addr) (c : Nat) (hc : c ≤ 9223372036854775807) (z : Nat → Int) : ArgI .i64 w A 0 c z :=
  ⟨Nat.zero_le _, hc, fun h => absurd h (Nat.lt_irrefl 0), fun i hi => absurd hi (Nat.not_lt_zero i)⟩

def ex3 : Nat → Int | 0 => 9223372036854775807 | 1 => 1 | _ => -1
set_option maxRecDepth 100000 in
theorem works_ok (w : World) : Calls Try.prog 15 #[] w fun e w' => e = .returned (.bool true) ∧ Below w.heap.size w w' := by
  have hz : fitV (tot ex3 3) = 9223372036854775807 ∧ fitE (tot ex3 3) = 0 := by decide
  have hm : mdV 4611686018427387904 6 4 = 6917529027641081856 ∧ mdE 4611686018427387904 6 4 = 0 := by decide
  have hr : redN 6 (-4) = -3 ∧ redD 6 (-4) = 2 ∧ redE 6 (-4) = 0 := by decide
  have hv0 := below_new1 w (.cells #[.int .i64 9223372036854775807, .int .i64 1, .int .i64 (-1)] 2)
  have k0 := Blk.new w 2 #[.int .i64 9223372036854775807, .int .i64 1, .int .i64 (-1)]
  go_enter Try.func15, Try.ntmps15
  go_wp2_with fail
  generalize w.alloc (.cells #[.int .i64 9223372036854775807, .int .i64 1, .int .i64 (-1)] 2) = W0 at *
  refine (sum_ok 3 3 (some ⟨w.heap.size, 0, none⟩) ex3 _ (argI_row k0 (by decide) (fun i hi => by rcases i with _ | _ | _ | i <;> first | rfl | omega) (fun i hi => by rcases i with _ | _ | _ | i <;> first | decide | omega))).mono ?_
  rw [hz.1, hz.2]
  rintro e w1 ⟨rfl, rfl⟩
  go_wp2_with fail
  refine (md_ok _ _ _ (by decide) (by decide) (by decide) _).mono ?_
  rw [hm.1, hm.2]
  rintro e w1 ⟨rfl, hv1⟩
  go_wp2_with fail
  refine (reduce_ok _ _ (by decide) (by decide) _).mono ?_
  rw [hr.1, hr.2.1, hr.2.2]
  rintro e w2 ⟨rfl, hv2⟩
  have hv3 := below_go (below_go hv0 (Nat.le_refl _) (hv1.mono (Nat.le_refl _))) (Nat.le_refl _) (hv2.mono (Nat.le_refl _))
  have k1 := Blk.new w2 32 #[.int .i64 (-3), .int .i64 2]
  have hv4 := hv3.alloc hv3.size (.cells #[.int .i64 (-3), .int .i64 2] 32)
  go_wp2_with fail
  trace_state
  go_ret
  exact ⟨rfl, hv4⟩
end Go.Proofs.Ytmjchiebpnnbpaa
