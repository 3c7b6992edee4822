/-
  before; going through all partitions of a few elements.
-/
import Derived.Test.YtipniooflaiikaaA8
set_option linter.unusedVariables false
set_option linter.unusedSimpArgs false
namespace Go.Proofs.Ytipniooflaiikaa
open Go.RowKit Go.Shelf

set_option maxRecDepth 100000 in
set_option maxHeartbeats 1000000 in
theorem before_yes (n ca cb : Nat) (A B : Option Addr) (z y : Nat → Int) (w : World) (ha : ArgI .i64 w A n ca z) (hb : ArgI .i64 w B n cb y) (hn : n ≤ 100000) (t : Nat) (ht : t < n) (he : ∀ j, j < t → z j = y j) (hl : z t < y t) :
    Calls Try.prog 22 #[.slice A n ca, .slice B n cb] w fun e w' => e = .returned (.bool true) ∧ ∃ m, w' = w.drewN m := by
  have HE := Lib.hid (And.intro he hl)
  clear he hl
  go_enter Try.func22, Try.ntmps22
  go_wp2_with fail
  go_loopw [5] (fun vi wr => ∃ k : Nat, vi = .int .i64 k ∧ k ≤ t ∧ ∃ m, wr = w.drewN m) (fun vi _ => n - (intOf vi).toNat)
  case atStart => exact ⟨0, rfl, Nat.zero_le _, 0, rfl⟩
  case round =>
    obtain ⟨k, rfl, hk, m, rfl⟩ := hrel
    obtain ⟨g, o, rfl, hg, hcell⟩ := ha.2.2.1 (by omega)
    obtain ⟨g', o', rfl, hg', hcell'⟩ := hb.2.2.1 (by omega)
    have c1 := hcell k (by omega)
    have c2 := hcell' k (by omega)
    have hkn : (k : Int) < (n : Int) := by omega
    have hcn := ha.1
    have hcn' := hb.1
    obtain ⟨u, hu⟩ : ∃ u, z k = u := ⟨_, rfl⟩
    obtain ⟨v, hv⟩ : ∃ v, y k = v := ⟨_, rfl⟩
    have HU := Lib.hid (And.intro hu hv)
    rw [hu] at c1
    rw [hv] at c2
    clear hcell hcell' hu hv
    by_cases hlt : k < t
    · have huv : u = v := by rw [← HU.out.1, ← HU.out.2]; exact HE.out.1 k hlt
      subst huv
      go_wp2_with fail
      go_quiet (fail)
      go_wp2_with fail
      go_roundw
      case rel => exact ⟨k + 1, by simp, by omega, m + nq, by first | rfl | simp⟩
      case measure => simp [intOf]; omega
    · obtain rfl : k = t := by omega
      have huv : u < v := by rw [← HU.out.1, ← HU.out.2]; exact HE.out.2
      have hne : (u == v) = false := by simp; omega
      go_wp2_with fail
      go_quiet (fail)
      generalize nq = n1
      go_wp2_with fail
      go_quiet (fail)
      go_wp2_with fail
      go_ret
      exact ⟨rfl, m + n1 + nq, by first | rfl | simp [Nat.add_assoc]⟩

/-- list as labels -/
def at0 (l : List Nat) : Nat → Nat := fun i => l.getD i 0
def nextB (l : List Nat) (n t v : Nat) : Bool :=
  decide (t < n) && decide (at0 l t ≠ t) && ((List.range n).all fun i => decide (i ≤ t) || decide (at0 l i = i)) && decide (at0 l t < v) && decide (v ≤ t) && (decide (v = t) || decide (at0 l v = v)) && ((List.range v).all fun i => decide (i ≤ at0 l t) || decide (at0 l i ≠ i))
theorem nextB_is {l : List Nat} {n t v : Nat} (h : nextB l n t v = true) : NextIs (at0 l) n t v := by
  simp only [nextB, Bool.and_eq_true, Bool.or_eq_true, decide_eq_true_eq, List.all_eq_true, List.mem_range] at h
  obtain ⟨⟨⟨⟨⟨⟨h1, h2⟩, h3⟩, h4⟩, h5⟩, h6⟩, h7⟩ := h
  exact ⟨h1, h2, fun i k1 k2 => (h3 i k2).resolve_left (by omega), h4, h5, h6, fun i k1 k2 => (h7 i k2).resolve_left (by omega)⟩
theorem NextIs.unique {a : Nat → Nat} {n t v t' v' : Nat} (h : NextIs a n t v) (k : NextIs a n t' v') : t = t' ∧ v = v' := by
  have ht : t = t' := by
    rcases Nat.lt_trichotomy t t' with h1 | h1 | h1
    · exact absurd (h.last t' h1 k.lt) k.ne
    · exact h1
    · exact absurd (k.last t h1 h.lt) h.ne
  subst ht
  refine ⟨rfl, ?_⟩
  have hg := h.gt
  have kg := k.gt
  have hle := h.le
  have kle := k.le
  rcases Nat.lt_trichotomy v v' with h1 | h1 | h1
  · rcases h.top with h2 | h2
    · omega
    · exact absurd h2 (k.low v hg h1)
  · exact h1
  · rcases k.top with h2 | h2
    · omega
    · exact absurd h2 (h.low v' kg h1)
/-- the first number from v on, with at most f tries, that may be the new label of t -/
def findV (l : List Nat) (t : Nat) : Nat → Nat → Nat
  | 0, v => v
  | f + 1, v => if v = t ∨ at0 l v = v then v else findV l t f (v + 1)
/-- the last element that is not the first of its class, below t -/
def findT (l : List Nat) : Nat → Option Nat
  | 0 => none
  | t + 1 => if at0 l t = t then findT l t else some t
/-- the labels behind these -/
def nextL (l : List Nat) (n t v : Nat) : List Nat := (List.range n).map fun i => if i < t then at0 l i else if i = t then v else 0
theorem nextL_at {l : List Nat} {n t v i : Nat} (hi : i < n) : at0 (nextL l n t v) i = nx (at0 l) t v i := by
  unfold at0 nextL
  rw [List.getD_eq_getElem?_getD, List.getElem?_map, List.getElem?_range hi]
  rfl
def canB (l : List Nat) (n : Nat) : Bool := (List.range n).all fun i => decide (at0 l i ≤ i) && decide (at0 l (at0 l i) = at0 l i)
theorem canB_is {l : List Nat} {n : Nat} (h : canB l n = true) : Can (at0 l) n := fun i hi => by
  simp only [canB, Bool.and_eq_true, decide_eq_true_eq, List.all_eq_true, List.mem_range] at h
  exact h i hi
/-- a walk through all partitions behind these, which ends when W are seen -/
def run (n W : Nat) : Nat → List Nat → Nat → Bool
  | 0, _, _ => false
  | f + 1, l, seen => canB l n && match findT l n with
    | none => ((List.range n).all fun i => decide (at0 l i = i)) && decide (seen + 1 = W)
    | some t => nextB l n t (findV l t n (at0 l t + 1)) && run n W f (nextL l n t (findV l t n (at0 l t + 1))) (seen + 1)
theorem run_can {n W f seen : Nat} {l : List Nat} (h : run n W f l seen = true) : Can (at0 l) n := by
  cases f with
  | zero => cases h
  | succ f => simp only [run, Bool.and_eq_true] at h; exact canB_is h.1
theorem run_le {n W : Nat} : ∀ {f seen : Nat} {l : List Nat}, run n W f l seen = true → seen + 1 ≤ W
  | 0, _, _, h => by cases h
  | f + 1, seen, l, h => by
    simp only [run, Bool.and_eq_true] at h
    obtain ⟨_, h2⟩ := h
    split at h2
    · simp only [Bool.and_eq_true, decide_eq_true_eq] at h2; omega
    · simp only [Bool.and_eq_true] at h2
      have := run_le h2.2
      omega
theorem run_end {n W f seen : Nat} {l : List Nat} (h : run n W f l seen = true) (he : ∀ i, i < n → at0 l i = i) : seen + 1 = W := by
  cases f with
  | zero => cases h
  | succ f =>
    simp only [run, Bool.and_eq_true] at h
    obtain ⟨_, h2⟩ := h
    split at h2
    · simp only [Bool.and_eq_true, decide_eq_true_eq] at h2; exact h2.2
    · simp only [Bool.and_eq_true] at h2
      have := nextB_is h2.1
      exact absurd (he _ this.lt) this.ne
theorem run_next {n W f seen t v : Nat} {l : List Nat} (h : run n W f l seen = true) (hn : NextIs (at0 l) n t v) : ∃ f' l', run n W f' l' (seen + 1) = true ∧ ∀ i, i < n → at0 l' i = nx (at0 l) t v i := by
  cases f with
  | zero => cases h
  | succ f =>
    simp only [run, Bool.and_eq_true] at h
    obtain ⟨_, h2⟩ := h
    split at h2
    · simp only [Bool.and_eq_true, decide_eq_true_eq, List.all_eq_true, List.mem_range] at h2
      exact absurd (h2.1 t hn.lt) hn.ne
    · simp only [Bool.and_eq_true] at h2
      obtain ⟨e1, e2⟩ := (nextB_is h2.1).unique hn
      rw [e2] at h2
      subst e1
      exact ⟨f, _, h2.2, fun i hi => nextL_at hi⟩
/-- how many partitions there are -/
def bell : Nat → Nat | 0 => 1 | 1 => 2 | 2 => 5 | 3 => 15 | 4 => 52 | 5 => 203 | _ => 877
theorem run_all {q : Nat} (hq : q < 7) : ∃ f l, run (q + 1) (bell q) f l 0 = true ∧ ∀ i, at0 l i = 0 := by
  refine ⟨900, [], ?_, fun i => rfl⟩
  have h : q = 0 ∨ q = 1 ∨ q = 2 ∨ q = 3 ∨ q = 4 ∨ q = 5 ∨ q = 6 := by omega
  rcases h with rfl | rfl | rfl | rfl | rfl | rfl | rfl <;> decide +kernel
end Go.Proofs.Ytipniooflaiikaa
