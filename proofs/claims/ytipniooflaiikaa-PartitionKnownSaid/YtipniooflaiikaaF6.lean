/-
  Classes on both sides, and the check: what they give.
-/
import Derived.Test.YtipniooflaiikaaF5
set_option linter.unusedVariables false
set_option linter.unusedSimpArgs false
namespace Go.Proofs.Ytipniooflaiikaa
open Go.RowKit Go.Shelf

theorem mem_congr {p q : Nat → Bool} {n : Nat} (h : ∀ i, i < n → p i = q i) : mem p n = mem q n := by
  unfold mem
  exact List.filter_congr fun x hx => h x (List.mem_range.1 hx)
theorem cls_congr {a b : Nat → Nat} {n : Nat} (h : ∀ i, i < n → a i = b i) : cls a n n = cls b n n := by
  unfold cls heads
  rw [mem_congr (p := fun j => decide (a j = j)) (q := fun j => decide (b j = j)) (fun i hi => by rw [h i hi])]
  refine List.map_congr_left fun r _ => mem_congr fun i hi => by rw [h i hi]
theorem Cls.slice {w : World} {B : Nat} {vo : Value} {ls : List (List Nat)} {ss : List Value} (h : Cls w B vo ls ss) : ∃ A c, vo = .slice A ls.length c := by
  rcases h.1.2 with ⟨h0, h3⟩ | ⟨g', cap, cur, h0, _⟩
  · exact ⟨none, 0, by rw [h0, h3]⟩
  · exact ⟨_, _, h0⟩
/-- a list of rows, and an error -/
def GivesC (f : Nat) (args : Array Value) (w : World) (cl : List (List Nat)) (ec : Int) : Prop :=
  ∀ W, Below w.heap.size w W → Calls Try.prog f args W fun e w' => ∃ A c B ss, e = .returned (.tuple #[.slice A cl.length c, .int .i64 ec]) ∧ Cls w' B (.slice A cl.length c) cl ss ∧ Below W.heap.size W w'
/-- a number -/
def GivesI (f : Nat) (args : Array Value) (w : World) (ec : Int) : Prop :=
  ∀ W, Below w.heap.size w W → Calls Try.prog f args W fun e w' => e = .returned (.int .i64 ec) ∧ Below W.heap.size W w'
theorem classes_both (n c c2 : Nat) (A X : Option Addr) (z : Nat → Int) (w : World) (ha : ArgI .i64 w A n c z) (hx : ArgI .i64 w X n c2 z) (hn : n ≤ 1000) :
    ∃ (cl : List (List Nat)) (ec : Int), GivesI 21 #[.slice X n c2] w ec ∧ GivesI 32 #[.slice A n c] w ec ∧ GivesC 33 #[.slice X n c2] w cl ec ∧ GivesC 34 #[.slice A n c] w cl ec ∧ cl.length ≤ 1000 ∧ ∀ l ∈ cl, l.length ≤ 1000 ∧ ∀ x ∈ l, x ≤ 1000 := by
  by_cases hz : CanZ z n
  · obtain ⟨a, hca, ea⟩ := hz.nat
    have key : ∀ a' : Nat → Nat, (∀ i, i < n → z i = (a' i : Int)) → cls a' n n = cls a n n := fun a' e' => cls_congr fun i hi => by
      have := e' i hi
      rw [ea i hi] at this
      exact (Int.ofNat_inj.1 this).symm
    refine ⟨cls a n n, 0, fun W hv => ?_, fun W hv => ?_, fun W hv => ?_, fun W hv => ?_, Nat.le_trans (cls_len a n n) hn, fun l hl => ?_⟩
    · refine (check_ok n c2 X z W (hx.below hv)).mono ?_
      rintro e w' ⟨⟨rfl, _⟩ | ⟨_, hno⟩, rfl⟩
      · exact ⟨rfl, Below.refl _ _⟩
      · exact (hno hz).elim
    · refine (rcheck_ok n c A z W (ha.below hv) hn).mono ?_
      rintro e w' ⟨⟨rfl, _⟩ | ⟨_, hno⟩, q⟩
      · exact ⟨rfl, q⟩
      · exact (hno hz).elim
    · refine (classes_ok n c2 X z W (hx.below hv) hn).mono ?_
      rintro e w' ⟨B, _, ⟨hno, _⟩ | ⟨a', vo, ss, _, e', rfl, hC⟩, q⟩
      · exact (hno hz).elim
      · rw [key a' e'] at hC
        obtain ⟨A', c', rfl⟩ := hC.slice
        exact ⟨A', c', B, ss, rfl, hC, q⟩
    · refine (rclasses_ok n c A z W (ha.below hv) hn).mono ?_
      rintro e w' ⟨⟨hno, _⟩ | ⟨a', vo, ss, _, e', rfl, hC⟩, q⟩
      · exact (hno hz).elim
      · rw [key a' e'] at hC
        obtain ⟨A', c', rfl⟩ := hC.slice
        exact ⟨A', c', _, ss, rfl, hC, q⟩
    · unfold cls at hl
      obtain ⟨r, _, rfl⟩ := List.mem_map.1 hl
      exact ⟨Nat.le_trans (mem_len _ _) hn, fun x hx => by have := mem_lt hx; omega⟩
  · refine ⟨[], 2, fun W hv => ?_, fun W hv => ?_, fun W hv => ?_, fun W hv => ?_, by simp, fun l hl => by cases hl⟩
    · refine (check_ok n c2 X z W (hx.below hv)).mono ?_
      rintro e w' ⟨⟨_, hy⟩ | ⟨rfl, _⟩, rfl⟩
      · exact (hz hy).elim
      · exact ⟨rfl, Below.refl _ _⟩
    · refine (rcheck_ok n c A z W (ha.below hv) hn).mono ?_
      rintro e w' ⟨⟨_, hy⟩ | ⟨rfl, _⟩, q⟩
      · exact (hz hy).elim
      · exact ⟨rfl, q⟩
    · refine (classes_ok n c2 X z W (hx.below hv) hn).mono ?_
      rintro e w' ⟨B, _, ⟨_, rfl⟩ | ⟨a', vo, ss, hca, e', _⟩, q⟩
      · exact ⟨none, 0, 0, [], rfl, Cls.nil _ _, q⟩
      · exact (hz ((CanZ.of hca).congr fun i hi => (e' i hi).symm)).elim
    · refine (rclasses_ok n c A z W (ha.below hv) hn).mono ?_
      rintro e w' ⟨⟨_, rfl⟩ | ⟨a', vo, ss, hca, e', _⟩, q⟩
      · exact ⟨none, 0, 0, [], rfl, Cls.nil _ _, q⟩
      · exact (hz ((CanZ.of hca).congr fun i hi => (e' i hi).symm)).elim
/-- the rows number i of two lists of rows are the same -/
def RowPair (W : World) (A1 A2 : Option Addr) (i : Nat) : Prop := ∃ g1 g2 X1 c1 X2 c2 n, A1 = some ⟨g1, 0, none⟩ ∧ A2 = some ⟨g2, 0, none⟩ ∧ W.cell? ⟨g1, i, none⟩ = some (.slice X1 n c1) ∧ W.cell? ⟨g2, i, none⟩ = some (.slice X2 n c2) ∧
  ∀ k m, Calls Try.prog 20 #[.slice X1 n c1, .slice X2 n c2] (W.drewN (k + m)) fun e w' => e = .returned (.bool true) ∧ ∃ m, w' = W.drewN (k + m)
theorem Cls.base0 {w : World} {B n c : Nat} {A : Option Addr} {ls : List (List Nat)} {ss : List Value} (h : Cls w B (.slice A n c) ls ss) (hn : 0 < ls.length) : ∃ g, A = some ⟨g, 0, none⟩ := by
  rcases h.1.2 with ⟨h0, h3⟩ | ⟨g', cap, cur, h0, _⟩
  · omega
  · cases h0; exact ⟨_, rfl⟩
theorem rowPair {W : World} {B1 B2 n1 c1 n2 c2 i : Nat} {A1 A2 : Option Addr} {cl : List (List Nat)} {s1 s2 : List Value} (h1 : Cls W B1 (.slice A1 n1 c1) cl s1) (h2 : Cls W B2 (.slice A2 n2 c2) cl s2) (hi : i < cl.length) (hl : ∀ l ∈ cl, l.length ≤ 1000 ∧ ∀ x ∈ l, x ≤ 1000) : RowPair W A1 A2 i := by
  obtain ⟨g1, rfl⟩ := h1.base0 (by omega)
  obtain ⟨g2, rfl⟩ := h2.base0 (by omega)
  have e1 : s1[i]? = some (s1[i]'(by rw [h1.2.1]; exact hi)) := List.getElem?_eq_getElem _
  have e2 : s2[i]? = some (s2[i]'(by rw [h2.2.1]; exact hi)) := List.getElem?_eq_getElem _
  have el : cl[i]? = some cl[i] := List.getElem?_eq_getElem hi
  have hm := hl _ (List.getElem_mem hi)
  have r1 := h1.2.2 i _ _ e1 el
  have r2 := h2.2.2 i _ _ e2 el
  have k1 := h1.cell e1
  have k2 := h2.cell e2
  obtain ⟨X1, d1, v1, a1⟩ := r1.arg (fun x hx => by have := hm.2 x hx; omega)
  obtain ⟨X2, d2, v2, a2⟩ := r2.arg (fun x hx => by have := hm.2 x hx; omega)
  rw [v1] at k1
  rw [v2] at k2
  refine ⟨g1, g2, X1, d1, X2, d2, _, rfl, rfl, k1, k2, fun k m => ?_⟩
  have q := below_drewN (Below.refl W.heap.size W) (k + m)
  refine (same_yes _ _ _ _ _ _ _ (a1.below q) (a2.below q) (by omega)).mono ?_
  rintro e w' ⟨rfl, m', rfl⟩
  exact ⟨rfl, m + m', by rw [World.drewN_drewN, Nat.add_assoc]⟩
end Go.Proofs.Ytipniooflaiikaa
