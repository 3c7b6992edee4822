/-
  A slice of integers, appended to one of the call's own.
-/
import Derived.Test.YtmjchiebpnnbpaaE2
import Derived.Maps.AppendAt
import Derived.Laws.AppendOwnNone
set_option linter.unusedVariables false
set_option linter.unusedSimpArgs false
namespace Go.Proofs.Ytmjchiebpnnbpaa
open Go.RowKit Go.Shelf

/-- the values of the first numbers -/
def vals (z : Nat → Int) (n : Nat) : List Value := (List.range n).map fun i => .int .i64 (z i)
theorem vals_len (z : Nat → Int) (n : Nat) : (vals z n).length = n := by simp [vals]
theorem vals_get {z : Nat → Int} {n i : Nat} (h : i < n) : (vals z n)[i]? = some (.int .i64 (z i)) := by
  unfold vals; rw [List.getElem?_map, List.getElem?_range h]; rfl
theorem vals_some {z : Nat → Int} {n i : Nat} {u : Value} (h : (vals z n)[i]? = some u) : i < n ∧ u = .int .i64 (z i) := by
  have hlt : i < n := by
    rcases Nat.lt_or_ge i n with h1 | h1
    · exact h1
    · rw [List.getElem?_eq_none (by rw [vals_len]; exact h1)] at h; cases h
  rw [vals_get hlt] at h
  exact ⟨hlt, by simpa using h.symm⟩
theorem vals_one (z : Nat → Int) (n : Nat) : ∀ u ∈ vals z n, u.oneCell' = true := fun u hu => by
  obtain ⟨j, _, rfl⟩ := List.mem_map.1 hu
  rfl
theorem vals_ext {z y : Nat → Int} {n : Nat} (h : ∀ j, j < n → z j = y j) : vals z n = vals y n := by
  unfold vals
  apply List.map_congr_left
  intro i hi
  rw [h i (by simpa using hi)]
/-- one list behind the other -/
def cat (z : Nat → Int) (n : Nat) (y : Nat → Int) : Nat → Int := fun i => if i < n then z i else y (i - n)
theorem vals_cat (z : Nat → Int) (n : Nat) (y : Nat → Int) (m : Nat) : vals z n ++ vals y m = vals (cat z n y) (n + m) := by
  apply List.ext_getElem?
  intro i
  rcases Nat.lt_or_ge i n with h | h
  · rw [List.getElem?_append_left (by rw [vals_len]; exact h), vals_get h, vals_get (by omega)]
    unfold cat; rw [if_pos h]
  · rw [List.getElem?_append_right (by rw [vals_len]; exact h), vals_len]
    rcases Nat.lt_or_ge (i - n) m with h2 | h2
    · rw [vals_get h2, vals_get (by omega)]
      unfold cat; rw [if_neg (by omega)]
    · rw [List.getElem?_eq_none (by rw [vals_len]; exact h2), List.getElem?_eq_none (by rw [vals_len]; omega)]

theorem info2 : (Try.prog.info? 2).map (fun i => (i.zero, i.size, i.bytes)) = some (some (.int .i64 0), 1, 8) := by kernel_rfl

/-- append(s, x...), s nil or the call's own, x integers that can be read -/
theorem wpList_append_ints {ops : Array Oper} {rest : List Oper} {o : Oper} {a : Act} {w : World} {Q : Exit → Act → World → Prop} (hgd : o.guard = none) (s x : Operand) (ho : o.op = .call { callee := .builtin .append, args := #[s, x], argTypes := #[22, 22] })
    (base : Nat) (v : Value) (n : Nat) (y : Nat → Int) (hs : a.eval s = v) (hown : w.ownsRow base 2 1 v n (vals y n)) (A : Option Addr) (m c : Nat) (z : Nat → Int) (hx : a.eval x = .slice A m c) (hz : ArgI .i64 w A m c z) (hA : A = none → m = 0 ∧ c = 0)
    (h63 : n + m ≤ 1000000) (hbase : base ≤ w.heap.size)
    (h : ∀ v' w', w'.ownsRow base 2 1 v' (n + m) (vals (cat y n z) (n + m)) → w.grownBy w' v.ownBlock → wpList Try.prog ops Q rest (a.put o.dst v') w') :
    wpList Try.prog ops Q (o :: rest) a w := by
  obtain ⟨i0, hi, hz0, hz1, hz2⟩ := info_parts info2
  cases A with
  | some ad =>
    refine wpList_append_own w hgd s x 22 ho base 2 i0 (.int .i64 0) 1 8 Try.underlying22 hi hz0 hz1 hz2 rfl (by decide) v n (vals y n) hs hown ad m c (vals z m) hx (by rw [vals_len, Nat.mul_one]) ?_ (vals_one z m) (by simp only [maxLen]; omega) (by omega) hbase ?_
    · intro j u hu
      obtain ⟨hj, rfl⟩ := vals_some hu
      obtain ⟨g, o', e, hg, hc⟩ := hz.2.2.1 (by omega)
      cases e
      rw [Addr.add_lit]
      exact hc j hj
    · intro v' w' h1 h2 _
      rw [vals_cat] at h1
      exact h v' w' h1 h2
  | none =>
    obtain ⟨rfl, rfl⟩ := hA rfl
    refine wpList_append_own_none hgd s x 22 ho base 2 i0 1 Try.underlying22 hi v n (vals y n) hs hown hx ?_
    refine h v w ?_ (⟨rfl, rfl, rfl, Nat.le_refl _, fun _ _ _ => rfl⟩)
    have e : vals (cat y n z) (n + 0) = vals y n := vals_ext fun j hj => if_pos (by omega)
    rw [e]
    exact hown
/-- a slice of integers that came in: nil is nil -/
theorem open_argN {H : Type} {enc : TypeId × Value → H} {P : Program} {w : World} {r : Reach} {b0 : Nat} {t e : TypeId} {k : IntKind} {v : Value} {d : DataW H} {ps : List MemPlace} (ht : P.underlying t = some (.slice e)) (he : P.underlying e = some (.int k)) (hc : P.cellsOf e = 1)
    (hv : Value.okWide P w r b0 t v) (h : DataW.Trod enc P w 0 (fun _ => true) true t v d ps) :
    ∃ A n c z, v = .slice A n c ∧ ArgI k w A n c z ∧ (A = none → n = 0 ∧ c = 0) := by
  obtain ⟨A, n, c, z, rfl, hz⟩ := open_argI ht he hc hv h
  refine ⟨A, n, c, z, rfl, hz, fun hA => ?_⟩
  subst hA
  obtain ⟨fuel, hf⟩ := h
  rcases Go.ChangeShapes.open_ints ht he hc hf with ⟨hcs, _⟩ | ⟨x, l, c', zs, hcs, _, hl, hm, hz, _, hcell, hwz⟩
  · simp [Value.cells] at hcs
    exact hcs
  · simp [Value.cells] at hcs
end Go.Proofs.Ytmjchiebpnnbpaa
