/-
  Histograms: the chapter's example: works.
-/
import Derived.Test.YtcmkjbliiggcbaaA5
import Derived.Test.YtcmkjbliiggcbaaA6
set_option linter.unusedVariables false
set_option linter.unusedSimpArgs false
namespace Go.Proofs.Ytcmkjbliiggcbaa
open Go.RowKit Go.Shelf

def exB : Nat → Int | 0 => 0 | _ => 10
def ex1 : Nat → Int := addC exB (fun _ => 0) 2 5 3
def ex2 : Nat → Int := addC exB ex1 2 (-7) 1
def ex3 : Nat → Int := addC exB ex2 2 10 4
theorem good_zero (n : Nat) : Good (fun _ => 0) n 0 := ⟨fun _ => Int.le_refl _, by induction n with
  | zero => rfl
  | succ n ih => show tot (fun _ => 0) (n + 1) + 0 = 0; rw [ih]; rfl, by decide⟩
theorem exq {k : Nat} (h : IsQ ex3 2 8 1 2 k) : k = 1 := by
  have h1 := h.le
  have h2 := h.ge
  have h3 := h.lt
  rcases k with _ | _ | _ | k
  · exact absurd h2 (by decide)
  · rfl
  · exact absurd (h3 1 (by decide)) (by decide)
  · omega
set_option maxRecDepth 100000 in
set_option maxHeartbeats 2000000 in
theorem works_ok (w : World) : Calls Try.prog 14 #[] w fun e w' => e = .returned (.bool true) ∧ Below w.heap.size w w' := by
  have q := below_new1 w (.cells #[.int .i64 0, .int .i64 10] 2)
  have k0 := Blk.new w 2 #[.int .i64 0, .int .i64 10]
  have hsz : w.heap.size ≤ (w.alloc (.cells #[.int .i64 0, .int .i64 10] 2)).heap.size := q.size
  go_enter Try.func14, Try.ntmps14
  go_wp2_with fail
  generalize w.alloc (.cells #[.int .i64 0, .int .i64 10] 2) = W0 at *
  refine (new_ok 2 2 (some ⟨w.heap.size, 0, none⟩) exB _ (argI_row k0 (by decide) (fun i hi => by rcases i with _ | _ | i <;> first | rfl | omega) (fun i hi => by rcases i with _ | _ | i <;> first | decide | omega)) (fun h => by cases h)).mono ?_
  rintro e w1 (⟨p, A, cb, s, cs, rfl, h, hp, hs, hv1⟩ | ⟨rfl, hno, _⟩)
  · have q := below_end q hsz hv1
    have hS : ∀ k, k < w.heap.size → ¬ (k = p ∨ k = s) := fun k hk => by omega
    go_wp2_with fail
    refine (hadd_ok h (good_zero 2) 5 3 (by decide) (by decide)).mono ?_
    rintro e w2 ⟨rfl, h2, t2⟩
    have g2 := (good_zero 2).add exB 5 3 (by decide) (by decide)
    rw [show (0 : Int) + 3 = 3 from rfl] at h2 g2
    have q := below_turns q q.size t2 hS
    go_wp2_with fail
    refine (hadd_ok h2 g2 (-7) 1 (by decide) (by decide)).mono ?_
    rintro e w3 ⟨rfl, h3, t3⟩
    have g3 := g2.add exB (-7) 1 (by decide) (by decide)
    rw [show (3 : Int) + 1 = 4 from rfl] at h3 g3
    have q := below_turns q q.size t3 hS
    go_wp2_with fail
    refine (hadd_ok h3 g3 10 4 (by decide) (by decide)).mono ?_
    rintro e w4 ⟨rfl, h4, t4⟩
    have g4 := g3.add exB 10 4 (by decide) (by decide)
    rw [show (4 : Int) + 4 = 8 from rfl] at h4 g4
    have q := below_turns q q.size t4 hS
    have h4 : Hist w4 p 2 exB ex3 8 A cb s cs := h4
    have g4 : Good ex3 2 8 := g4
    go_wp2_with fail
    refine (quant_ok h4 g4 (by decide) 1 2 (by decide) (by decide) (by decide) (by decide)).mono ?_
    rintro e w5 ⟨k, rfl, hk, hv5⟩
    obtain rfl := exq hk
    have h5 := h4.below hv5
    have q := below_end q q.size hv5
    clear hk
    go_wp2_with fail
    refine (total_ok h5).mono ?_
    rintro e w' ⟨rfl, rfl⟩
    go_wp2_with fail
    refine (counts_ok h5 g4.fits).mono ?_
    rintro e w6 ⟨A', c', rfl, hA', _, hv6⟩
    have q := below_end q q.size hv6
    have k6 := Blk.new w6 2 #[.int .i64 1, .int .i64 3, .int .i64 4]
    have hA6 := hA'.below (below_new1 w6 (.cells #[.int .i64 1, .int .i64 3, .int .i64 4] 2))
    have q := q.alloc q.size (.cells #[.int .i64 1, .int .i64 3, .int .i64 4] 2)
    go_wp2_with fail
    generalize w6.alloc (.cells #[.int .i64 1, .int .i64 3, .int .i64 4] 2) = W6 at *
    refine (same_yes 3 c' 3 A' (some ⟨w6.heap.size, 0, none⟩) ex3 _ hA6 (argI_row k6 (by decide) (fun i hi => by rcases i with _ | _ | _ | i <;> first | rfl | omega) g4.fits) (by decide)).mono ?_
    rintro e w7 ⟨rfl, hv7⟩
    go_wp2_with fail
    go_ret
    exact ⟨rfl, below_end q q.size hv7⟩
  · exfalso
    exact hno ⟨by decide, fun i j h1 h2 => by
      obtain rfl : j = 1 := by omega
      obtain rfl : i = 0 := by omega
      decide⟩
end Go.Proofs.Ytcmkjbliiggcbaa
