/-
  Cores as the laws ask for them.
-/
import Derived.Test.YtoiafopndlnknaaQ4
import Derived.Test.YtoiafopndlnknaaQ5
set_option linter.unusedVariables false
set_option linter.unusedSimpArgs false
namespace Go.Proofs.Ytoiafopndlnknaa
open Go.RowKit Go.Shelf

/-- who is in the core -/
def coreZ (E : Es) (n : Nat) (k : Int) : Nat → Bool := fun v => decide (k ≤ (num E n v : Nat))
theorem coreZ_nat (E : Es) (n k : Nat) : coreZ E n (k : Int) = coreS E n k := by
  funext v
  unfold coreZ coreS
  by_cases h : k ≤ num E n v
  · rw [decide_eq_true h, decide_eq_true (by omega)]
  · rw [decide_eq_false h, decide_eq_false (by omega)]
theorem coreL_mem {E : Es} {n v : Nat} {k : Int} : v ∈ coreL E n k ↔ v < n ∧ k ≤ (num E n v : Nat) := by
  unfold coreL
  rw [List.mem_filter]
  simp
theorem coreL_incr (E : Es) (n : Nat) (k : Int) : Incr n (coreL E n k) := by
  have hp : (coreL E n k).Pairwise (· < ·) := List.Pairwise.filter _ List.pairwise_lt_range
  refine ⟨fun i hi => ?_, fun i hi => ?_⟩
  · rw [List.getD_eq_getElem?_getD, List.getElem?_eq_getElem hi]
    exact (coreL_mem.1 (List.getElem_mem hi)).1
  · rw [List.getD_eq_getElem?_getD, List.getElem?_eq_getElem (by omega), List.getD_eq_getElem?_getD, List.getElem?_eq_getElem hi]
    exact List.pairwise_iff_getElem.1 hp i (i + 1) (by omega) hi (by omega)
theorem coreL_len (E : Es) (n : Nat) (k : Int) : (coreL E n k).length ≤ n := by
  have := List.length_filter_le (fun v => decide (k ≤ (num E n v : Nat))) (List.range n)
  rwa [List.length_range] at this
theorem coreL_nil {E : Es} {n : Nat} {k : Int} (h : (most E n : Int) < k) : coreL E n k = [] := by
  rw [List.eq_nil_iff_forall_not_mem]
  intro v hv
  have := coreL_mem.1 hv
  have := (most_is E n).1 v this.1
  omega
theorem core_nice {w : World} {K : GB} {n : Nat} {E : Es} (hG : Gr w K n E) (k : Int) :
    Calls Try.prog 19 #[.pointer (some ⟨K.g, 0, none⟩), .int .i64 k] w fun e w' => ∃ A q c, e = .returned (.slice A q c) ∧ (coreL E n k).length = q ∧ q ≤ n ∧ ((most E n : Int) < k → q = 0) ∧ ArgI .i64 w' A q c (fun i => (((coreL E n k).getD i 0 : Nat) : Int)) ∧ Below w.heap.size w w' := by
  refine (core_ok hG k).mono ?_
  rintro e w' ⟨v, rfl, hr, hb⟩
  obtain ⟨A, c, rfl, ha⟩ := hr.arg (fun x hx => by have := (coreL_mem.1 hx).1; have := hG.fine.1; omega)
  exact ⟨A, _, c, rfl, rfl, coreL_len E n k, fun h => by rw [coreL_nil h]; rfl, ha, hb⟩
theorem members_core {w : World} {m c q : Nat} {A : Option Addr} {E : Es} {k : Int} (hl : (coreL E m k).length = q) (ha : ArgI .i64 w A q c (fun i => (((coreL E m k).getD i 0 : Nat) : Int))) (hm : m ≤ 4096) :
    Calls Try.prog 18 #[.int .i64 (m : Int), .slice A q c] w fun e w' => ∃ g, e = .returned (.tuple #[.slice (some ⟨g, 0, none⟩) m m, .bool true]) ∧ w.heap.size ≤ g ∧ RowB w' g m (coreZ E m k) ∧ Below w.heap.size w w' := by
  refine (members_ok w m c q A (coreL E m k) hl ha hm (by rw [← hl]; exact Nat.le_trans (coreL_len E m k) hm) (coreL_incr E m k)).mono ?_
  rintro e w' ⟨g, h1, h2, h3, h4⟩
  refine ⟨g, h1, h2, h3.congr fun v hv => ?_, h4⟩
  unfold coreZ
  by_cases h : k ≤ (num E m v : Nat)
  · rw [decide_eq_true h, decide_eq_true (coreL_mem.2 ⟨hv, h⟩)]
  · rw [decide_eq_false h, decide_eq_false (fun g => h (coreL_mem.1 g).2)]
/-- within the core each has k edges -/
theorem coreZ_deg {E : Es} {n v : Nat} {k : Int} (hF : Fine n E) (hv : v < n) (h : k ≤ (num E n v : Nat)) : k ≤ (insD E (coreZ E n k) v : Nat) := by
  rcases Int.lt_or_le k 0 with h0 | h0
  · omega
  · obtain ⟨j, rfl⟩ : ∃ j : Nat, k = j := ⟨k.toNat, by omega⟩
    rw [coreZ_nat]
    unfold insD
    have h1 : coreS E n j v = true := decide_eq_true (by omega)
    rw [if_pos h1]
    have := core_holds hF hv (k := j) (by omega)
    omega
end Go.Proofs.Ytoiafopndlnknaa
