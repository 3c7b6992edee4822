/-
  Rows of integers, and slices of the call's own.
-/
import Derived.Test.YtoiafopndlnknaaMem2
import Derived.Test.YtoiafopndlnknaaProg
import Derived.Test.YtoiafopndlnknaaRows
import Derived.Tactics
import Derived.Tactics2
import Derived.WalkKit
import Derived.RowKit3
import Derived.KernelRfl
import Derived.IntWalk
import Derived.Shelf.Abstract
import Derived.WalkSpells
import Derived.WalkLawsBesides
import Derived.Lib.Hide
import Derived.Test.YtoiafopndlnknaaOpen
import Derived.Maps.AppendAt
import Derived.Laws.AppendOwnNone
set_option linter.unusedVariables false
set_option linter.unusedSimpArgs false
namespace Go.Proofs.Ytoiafopndlnknaa
open Go.RowKit Go.Shelf

def Fits (x : Int) : Prop := -9223372036854775808 ≤ x ∧ x ≤ 9223372036854775807
instance (x : Int) : Decidable (Fits x) := by unfold Fits; infer_instance

theorem below_end {B : Nat} {a b c : World} (h : Below B a b) (hB : B ≤ b.heap.size) (k : Below b.heap.size b c) : Below B a c := h.trans (k.mono hB)
theorem fits_wf {x : Int} (h : Fits x) : (Lit.int .i64 x).wf = true := by
  obtain ⟨h0, h1⟩ := h
  simp [Lit.wf, IntKind.min, IntKind.max, IntKind.signed, IntKind.bits]; omega
theorem argI_row {w : World} {g t : Nat} {cs : Array Value} {n : Nat} {z : Nat → Int} (hb : Blk w g t cs) (hn : n ≤ 9223372036854775807) (hc : ∀ i, i < n → cs[i]? = some (.int .i64 (z i))) (hz : ∀ i, i < n → Fits (z i)) : ArgI .i64 w (some ⟨g, 0, none⟩) n n z :=
  ⟨Nat.le_refl _, hn, fun _ => ⟨g, 0, rfl, hb.lt, fun i hi => by rw [Nat.zero_add]; exact (hb.cell i).trans (hc i hi)⟩, fun i hi => fits_wf (hz i hi)⟩
theorem argI_zero {w : World} (A : Option Addr) (c : Nat) (hc : c ≤ 9223372036854775807) (z : Nat → Int) : ArgI .i64 w A 0 c z :=
  ⟨Nat.zero_le _, hc, fun h => absurd h (Nat.lt_irrefl 0), fun i hi => absurd hi (Nat.not_lt_zero i)⟩

/-- block g holds a row of n integers -/
def RowF (k : IntKind) (w : World) (g e n : Nat) (f : Nat → Int) : Prop := ∃ cs, Blk w g e cs ∧ ∀ i, i < n → cs[i]? = some (Value.int k (f i))
section
variable {k : IntKind} {w w' : World} {g e n : Nat} {f : Nat → Int}
theorem RowF.lt (h : RowF k w g e n f) : g < w.heap.size := by obtain ⟨cs, h1, _⟩ := h; exact h1.lt
theorem RowF.cell (h : RowF k w g e n f) {i : Nat} (hi : i < n) : w.cell? ⟨g, i, none⟩ = some (.int k (f i)) := by
  obtain ⟨cs, h1, h2⟩ := h
  rw [h1.cell]; exact h2 i hi
theorem RowF.frozen (h : RowF k w g e n f) (i : Nat) : w.frozen? ⟨g, i, none⟩ = false := by obtain ⟨cs, h1, _⟩ := h; exact h1.frozen i
theorem RowF.below {B : Nat} (h : RowF k w g e n f) (hb : Below B w w') (hg : g < B) : RowF k w' g e n f := by obtain ⟨cs, h1, h2⟩ := h; exact ⟨cs, h1.below hb hg, h2⟩
theorem RowF.below' (h : RowF k w g e n f) (hb : Below w.heap.size w w') : RowF k w' g e n f := h.below hb h.lt
theorem RowF.turns {S : Nat → Prop} (h : RowF k w g e n f) (ht : Turns S w w') (hg : ¬ S g) : RowF k w' g e n f := by obtain ⟨cs, h1, h2⟩ := h; exact ⟨cs, h1.turns ht hg, h2⟩
theorem RowF.alloc (h : RowF k w g e n f) (o : Obj) : RowF k (w.alloc o) g e n f := by obtain ⟨cs, h1, h2⟩ := h; exact ⟨cs, h1.alloc o, h2⟩
theorem RowF.drewN (h : RowF k w g e n f) (m : Nat) : RowF k (w.drewN m) g e n f := h
theorem RowF.drew (h : RowF k w g e n f) : RowF k w.drew g e n f := h
theorem RowF.far (h : RowF k w g e n f) {p : Addr} (hp : g ≠ p.block) (u : Value) : RowF k (w.setCell p u) g e n f := by obtain ⟨cs, h1, h2⟩ := h; exact ⟨cs, h1.far hp u, h2⟩
theorem RowF.set_ (h : RowF k w g e n f) (q : Nat) (v : Int) : RowF k (w.setCell ⟨g, q, none⟩ (.int k v)) g e n (fun j => if j = q then v else f j) := by
  obtain ⟨cs, h1, h2⟩ := h
  refine ⟨_, h1.set_ q _, fun i hi => ?_⟩
  have := h2 i hi
  rw [Array.getElem?_setIfInBounds]
  by_cases e : q = i
  · subst e
    rw [if_pos rfl, if_pos (Array.getElem?_eq_some_iff.1 this).1]
    simp
  · rw [if_neg e, this]
    show _ = some (Value.int k (if i = q then v else f i))
    rw [if_neg (Ne.symm e)]
theorem RowF.congr {f' : Nat → Int} (h : RowF k w g e n f) (hf : ∀ i, i < n → f i = f' i) : RowF k w g e n f' := by
  obtain ⟨cs, h1, h2⟩ := h
  exact ⟨cs, h1, fun i hi => by rw [h2 i hi, hf i hi]⟩
theorem RowF.arg (h : RowF k w g e n f) (hn : n ≤ 9223372036854775807) (hwf : ∀ i, i < n → (Lit.int k (f i)).wf = true) : ArgI k w (some ⟨g, 0, none⟩) n n f :=
  ⟨Nat.le_refl _, hn, fun _ => ⟨g, 0, rfl, h.lt, fun i hi => by rw [Nat.zero_add]; exact h.cell hi⟩, hwf⟩
end

/-- a row of zeros of a kind -/
def zerosK (k : IntKind) (n : Nat) : Array Value := madeCells #[.int k 0] n
theorem RowF.new (k : IntKind) (w : World) (e n : Nat) : RowF k (w.alloc (.cells (zerosK k n) e)) w.heap.size e n (fun _ => 0) :=
  ⟨_, Blk.new w e _, fun i hi => by unfold zerosK; rw [← Array.getElem?_toList, toList_madeCells_one, List.getElem?_replicate, if_pos hi]⟩

/-- the values of the first numbers -/
def vals (z : Nat → Int) (n : Nat) : List Value := (List.range n).map fun i => .int .i64 (z i)
theorem vals_len (z : Nat → Int) (n : Nat) : (vals z n).length = n := by simp [vals]
theorem vals_get {z : Nat → Int} {n i : Nat} (h : i < n) : (vals z n)[i]? = some (.int .i64 (z i)) := by
  unfold vals; rw [List.getElem?_map, List.getElem?_range h]; rfl
theorem vals_some {z : Nat → Int} {n i : Nat} {u : Value} (h : (vals z n)[i]? = some u) : i < n ∧ u = .int .i64 (z i) := by
  have hlt : i < n := by
    rcases Nat.lt_or_ge i n with h1 | h1
    · exact h1
    · rw [List.getElem?_eq_none (by rw [vals_len]; exact h1)] at h; cases h
  rw [vals_get hlt] at h
  exact ⟨hlt, by simpa using h.symm⟩
theorem vals_one (z : Nat → Int) (n : Nat) : ∀ u ∈ vals z n, u.oneCell' = true := fun u hu => by
  obtain ⟨j, _, rfl⟩ := List.mem_map.1 hu
  rfl
theorem vals_ext {z y : Nat → Int} {n : Nat} (h : ∀ j, j < n → z j = y j) : vals z n = vals y n := by
  unfold vals
  apply List.map_congr_left
  intro i hi
  rw [h i (by simpa using hi)]
/-- one list behind the other -/
def cat (z : Nat → Int) (n : Nat) (y : Nat → Int) : Nat → Int := fun i => if i < n then z i else y (i - n)
theorem vals_cat (z : Nat → Int) (n : Nat) (y : Nat → Int) (m : Nat) : vals z n ++ vals y m = vals (cat z n y) (n + m) := by
  apply List.ext_getElem?
  intro i
  rcases Nat.lt_or_ge i n with h | h
  · rw [List.getElem?_append_left (by rw [vals_len]; exact h), vals_get h, vals_get (by omega)]
    unfold cat; rw [if_pos h]
  · rw [List.getElem?_append_right (by rw [vals_len]; exact h), vals_len]
    rcases Nat.lt_or_ge (i - n) m with h2 | h2
    · rw [vals_get h2, vals_get (by omega)]
      unfold cat; rw [if_neg (by omega)]
    · rw [List.getElem?_eq_none (by rw [vals_len]; exact h2), List.getElem?_eq_none (by rw [vals_len]; omega)]

theorem info3 : (Try.prog.info? 3).map (fun i => (i.zero, i.size, i.bytes)) = some (some (.int .i64 0), 1, 8) := by kernel_rfl

/-- append(s, x...), s nil or the call's own, x integers that can be read -/
theorem wpList_append_ints {ops : Array Oper} {rest : List Oper} {o : Oper} {a : Act} {w : World} {Q : Exit → Act → World → Prop} (hgd : o.guard = none) (s x : Operand) (ho : o.op = .call { callee := .builtin .append, args := #[s, x], argTypes := #[31, 31] })
    (base : Nat) (v : Value) (n : Nat) (y : Nat → Int) (hs : a.eval s = v) (hown : w.ownsRow base 3 1 v n (vals y n)) (A : Option Addr) (m c : Nat) (z : Nat → Int) (hx : a.eval x = .slice A m c) (hz : ArgI .i64 w A m c z) (hA : A = none → m = 0 ∧ c = 0)
    (h63 : n + m ≤ 1000000) (hbase : base ≤ w.heap.size)
    (h : ∀ v' w', w'.ownsRow base 3 1 v' (n + m) (vals (cat y n z) (n + m)) → w.grownBy w' v.ownBlock → wpList Try.prog ops Q rest (a.put o.dst v') w') :
    wpList Try.prog ops Q (o :: rest) a w := by
  obtain ⟨i0, hi, hz0, hz1, hz2⟩ := info_parts info3
  cases A with
  | some ad =>
    refine wpList_append_own w hgd s x 31 ho base 3 i0 (.int .i64 0) 1 8 Try.underlying31 hi hz0 hz1 hz2 rfl (by decide) v n (vals y n) hs hown ad m c (vals z m) hx (by rw [vals_len, Nat.mul_one]) ?_ (vals_one z m) (by simp only [maxLen]; omega) (by omega) hbase ?_
    · intro j u hu
      obtain ⟨hj, rfl⟩ := vals_some hu
      obtain ⟨g, o', e, hg, hc⟩ := hz.2.2.1 (by omega)
      cases e
      rw [Addr.add_lit]
      exact hc j hj
    · intro v' w' h1 h2 _
      rw [vals_cat] at h1
      exact h v' w' h1 h2
  | none =>
    obtain ⟨rfl, rfl⟩ := hA rfl
    refine wpList_append_own_none hgd s x 31 ho base 3 i0 1 Try.underlying31 hi v n (vals y n) hs hown hx ?_
    refine h v w ?_ (⟨rfl, rfl, rfl, Nat.le_refl _, fun _ _ _ => rfl⟩)
    have e : vals (cat y n z) (n + 0) = vals y n := vals_ext fun j hj => if_pos (by omega)
    rw [e]
    exact hown
/-- a slice of integers that came in: nil is nil -/
theorem open_argN {H : Type} {enc : TypeId × Value → H} {P : Program} {w : World} {r : Reach} {b0 : Nat} {t e : TypeId} {k : IntKind} {v : Value} {d : DataW H} {ps : List MemPlace} (ht : P.underlying t = some (.slice e)) (he : P.underlying e = some (.int k)) (hc : P.cellsOf e = 1)
    (hv : Value.okWide P w r b0 t v) (h : DataW.Trod enc P w 0 (fun _ => true) true t v d ps) :
    ∃ A n c z, v = .slice A n c ∧ ArgI k w A n c z ∧ (A = none → n = 0 ∧ c = 0) := by
  obtain ⟨A, n, c, z, rfl, hz⟩ := open_argI ht he hc hv h
  refine ⟨A, n, c, z, rfl, hz, fun hA => ?_⟩
  subst hA
  obtain ⟨fuel, hf⟩ := h
  rcases Go.ChangeShapes.open_ints ht he hc hf with ⟨hcs, _⟩ | ⟨x, l, c', zs, hcs, _, hl, hm, hz, _, hcell, hwz⟩
  · simp [Value.cells] at hcs
    exact hcs
  · simp [Value.cells] at hcs
/-- what owns a row, as an argument -/
theorem own_arg {w : World} {base n : Nat} {v : Value} {z : Nat → Int} (h : w.ownsRow base 3 1 v n (vals z n)) (hz : ∀ j, j < n → Fits (z j)) :
    ∃ A cap, v = .slice A n cap ∧ ArgI .i64 w A n cap z ∧ (A = none → n = 0 ∧ cap = 0) ∧ ∀ g o, A = some ⟨g, o, none⟩ → base ≤ g := by
  rcases h.2 with ⟨h0, h1⟩ | ⟨g, cap, cur, hv, hg, hh, hc, hm, hs, ht⟩
  · subst h0 h1
    exact ⟨none, 0, rfl, argI_zero _ _ (by decide) _, fun _ => ⟨rfl, rfl⟩, fun g o e => by cases e⟩
  · refine ⟨_, cap, hv, ⟨hc, by simpa [maxLen] using hm, fun hn => ⟨g, 0, rfl, ?_, fun i hi => ?_⟩, fun i hi => fits_wf (hz i hi)⟩, (fun e => nomatch e), (fun g' o e => by cases e; exact hg)⟩
    · exact Blk.lt (w := w) (t := 3) (cs := cur) hh
    · rw [Nat.zero_add]
      refine (Blk.cell (w := w) (t := 3) (cs := cur) hh i).trans ?_
      have hu := vals_get (z := z) hi
      rw [← ht, List.getElem?_take] at hu
      split at hu
      · rw [← Array.getElem?_toList]; exact hu
      · cases hu

theorem run_make31 (n : Nat) (hn : n ≤ 100000) (w : World) :
    (Instr.makeSlice 31 (.int .i64 (n : Int)) (.int .i64 (n : Int))).run Try.prog w = .ok (.slice (some ⟨w.heap.size, 0, none⟩) n n) (w.alloc (.cells (zerosK .i64 n) 3)) := by
  obtain ⟨i0, hi, hz0, hz1, hz2⟩ := info_parts info3
  have hr := Go.run_make (P := Try.prog) w 31 3 i0 (.int .i64 0) Try.underlying31 hi hz0 .i64 .i64 n n (by omega) (by omega) (by rw [hz2]; omega) (by omega)
  simp only [Int.toNat_natCast] at hr
  rw [hr, hz1, Nat.mul_one]
  rfl

/-- what owns a row, as a row -/
theorem own_row {w : World} {base n : Nat} {v : Value} {z : Nat → Int} (h : w.ownsRow base 3 1 v n (vals z n)) (hn : 0 < n) :
    ∃ g cap, v = .slice (some ⟨g, 0, none⟩) n cap ∧ base ≤ g ∧ n ≤ cap ∧ RowF .i64 w g 3 n z := by
  rcases h.2 with ⟨_, h0⟩ | ⟨g, cap, cur, hv, hg, hh, hc, _, hs, ht⟩
  · omega
  · refine ⟨g, cap, hv, hg, hc, cur, hh, fun i hi => ?_⟩
    have hu := vals_get (z := z) hi
    rw [← ht, List.getElem?_take] at hu
    split at hu
    · rw [← Array.getElem?_toList]; exact hu
    · cases hu

end Go.Proofs.Ytoiafopndlnknaa
