/-
  Arguments opened: integers, structs and arrays of integers by value, slices of integers, slices of structs of integers.
-/
import Derived.Below
import Derived.WalkKit
import Derived.ProofKit
import Derived.OpenShut
import Derived.Deep.Slices
import Derived.Deep.Fields
import Derived.ChangeSame
import Derived.Lib.SmallJoins
set_option linter.unusedVariables false
set_option linter.unusedSimpArgs false
namespace Go.Proofs.Ytoiafopndlnknaa
open Go.ChangeShapes Go.WideShapes Go.ChangeAt Go.RowKit Go.Deep

theorem cell?_lt {w : World} {p : Addr} {v : Value} (h : w.cell? p = some v) : p.block < w.heap.size := by
  rcases Nat.lt_or_ge p.block w.heap.size with hl | hg
  · exact hl
  · unfold World.cell? at h
    rw [Array.getElem?_eq_none hg] at h
    simp at h

theorem wf_u8 {x : Int} (h : (Lit.int .u8 x).wf = true) : 0 ≤ x ∧ x ≤ 255 := by
  simp [Lit.wf, IntKind.min, IntKind.max, IntKind.signed, IntKind.bits] at h; omega
theorem wf_u16 {x : Int} (h : (Lit.int .u16 x).wf = true) : 0 ≤ x ∧ x ≤ 65535 := by
  simp [Lit.wf, IntKind.min, IntKind.max, IntKind.signed, IntKind.bits] at h; omega
theorem wf_i16 {x : Int} (h : (Lit.int .i16 x).wf = true) : -32768 ≤ x ∧ x ≤ 32767 := by
  simp [Lit.wf, IntKind.min, IntKind.max, IntKind.signed, IntKind.bits] at h; omega
theorem wf_u32 {x : Int} (h : (Lit.int .u32 x).wf = true) : 0 ≤ x ∧ x ≤ 4294967295 := by
  simp [Lit.wf, IntKind.min, IntKind.max, IntKind.signed, IntKind.bits] at h; omega
theorem wf_i64 {x : Int} (h : (Lit.int .i64 x).wf = true) : -9223372036854775808 ≤ x ∧ x ≤ 9223372036854775807 := by
  simp [Lit.wf, IntKind.min, IntKind.max, IntKind.signed, IntKind.bits] at h; omega

/-- a slice of integers that came in -/
def ArgI (k : IntKind) (w : World) (A : Option Addr) (n c : Nat) (z : Nat → Int) : Prop :=
  n ≤ c ∧ c ≤ 9223372036854775807 ∧ (0 < n → ∃ g o, A = some ⟨g, o, none⟩ ∧ g < w.heap.size ∧ ∀ i, i < n → w.cell? ⟨g, o + i, none⟩ = some (.int k (z i))) ∧ ∀ i, i < n → (Lit.int k (z i)).wf = true
theorem ArgI.below {k : IntKind} {w w' : World} {A : Option Addr} {n c : Nat} {z : Nat → Int} (h : ArgI k w A n c z) (hb : Below w.heap.size w w') : ArgI k w' A n c z := by
  obtain ⟨h1, h2, h3, h4⟩ := h
  refine ⟨h1, h2, fun hn => ?_, h4⟩
  obtain ⟨g, o, e, hg, hc⟩ := h3 hn
  exact ⟨g, o, e, Nat.lt_of_lt_of_le hg hb.size, fun i hi => (hb.cell (p := ⟨g, o + i, none⟩) hg).trans (hc i hi)⟩

/-- a slice of structs that came in: struct i, field j -/
def ArgS (ks : List IntKind) (w : World) (A : Option Addr) (n c : Nat) (z : Nat → Nat → Int) : Prop :=
  n ≤ c ∧ c ≤ 9223372036854775807 ∧ (0 < n → ∃ g o, A = some ⟨g, o, none⟩ ∧ g < w.heap.size ∧ ∀ i, i < n → ∀ j k, ks[j]? = some k → w.cell? ⟨g, o + (i * ks.length + j), none⟩ = some (.int k (z i j))) ∧
    ∀ i, i < n → ∀ j k, ks[j]? = some k → (Lit.int k (z i j)).wf = true
theorem ArgS.below {ks : List IntKind} {w w' : World} {A : Option Addr} {n c : Nat} {z : Nat → Nat → Int} (h : ArgS ks w A n c z) (hb : Below w.heap.size w w') : ArgS ks w' A n c z := by
  obtain ⟨h1, h2, h3, h4⟩ := h
  refine ⟨h1, h2, fun hn => ?_, h4⟩
  obtain ⟨g, o, e, hg, hc⟩ := h3 hn
  exact ⟨g, o, e, Nat.lt_of_lt_of_le hg hb.size, fun i hi j k hj => (hb.cell (p := ⟨g, _, none⟩) hg).trans (hc i hi j k hj)⟩

section
variable {H : Type} {enc : TypeId × Value → H} {P : Program} {w : World}

theorem open_argI {r : Reach} {b0 : Nat} {t e : TypeId} {k : IntKind} {v : Value} {d : DataW H} {ps : List MemPlace} (ht : P.underlying t = some (.slice e)) (he : P.underlying e = some (.int k)) (hc : P.cellsOf e = 1)
    (hv : Value.okWide P w r b0 t v) (h : DataW.Trod enc P w 0 (fun _ => true) true t v d ps) :
    ∃ A n c z, v = .slice A n c ∧ ArgI k w A n c z := by
  obtain ⟨A, n, c, rfl⟩ := okWide_slice ht hv
  obtain ⟨fuel, hf⟩ := h
  rcases open_ints ht he hc hf with ⟨hcs, _⟩ | ⟨x, l, c', zs, hcs, _, hl, hm, hz, _, hcell, hwz⟩
  · simp [Value.cells] at hcs
    obtain ⟨rfl, rfl, rfl⟩ := hcs
    exact ⟨_, 0, 0, fun _ => 0, rfl, Nat.le_refl _, by omega, fun h => by omega, fun i h => by omega⟩
  · simp [Value.cells] at hcs
    obtain ⟨rfl, rfl, rfl⟩ := hcs
    simp at hz
    refine ⟨_, n, c, fun i => zs.getD i 0, rfl, hl, by simpa [maxLen] using hm, fun hn => ?_, fun i hi => ?_⟩
    · have h0 := hcell 0 (by omega)
      obtain ⟨g, o, s⟩ := x
      have hs := World.cell?_spot h0
      simp [Addr.add] at hs
      subst hs
      have hlt := cell?_lt h0
      simp [Addr.add] at hlt
      refine ⟨g, o, rfl, hlt, fun i hi => ?_⟩
      have := hcell i (by omega)
      rw [Addr.add_lit] at this
      exact this
    · refine hwz _ ?_
      show zs.getD i 0 ∈ zs
      rw [List.getD_eq_getElem?_getD, List.getElem?_eq_getElem (by omega)]
      exact List.getElem_mem _

theorem open_rec {r : Reach} {b0 : Nat} {t : TypeId} {fs : Array Field} {v : Value} {d : DataW H} {ps : List MemPlace} (hs : P.underlying t = some (.struct fs)) (hone : oneCellFields P fs = true) (hC : P.cellsOf t = fs.size)
    (ks : List IntKind) (hl : fs.size = ks.length) (hk : ∀ (j : Nat) (f : Field), fs[j]? = some f → ∃ k, ks[j]? = some k ∧ P.underlying f.type = some (.int k))
    (hv : Value.okWide P w r b0 t v) (h : DataW.Trod enc P w 0 (fun _ => true) true t v d ps) :
    ∃ z : Nat → Int, v = .agg ((List.range ks.length).map fun j => Value.int (ks.getD j .i64) (z j)).toArray ∧ ∀ j k, ks[j]? = some k → (Lit.int k (z j)).wf = true := by
  obtain ⟨cs, rfl, hsz⟩ := okWide_struct hs hv
  obtain ⟨fuel, hf⟩ := h
  obtain ⟨ys, n', hn', hy, hlen, hyl, hfl⟩ := DataW.trod_struct hs hf
  have hcl : cs.toList.length = fs.size := by simpa using hsz.trans hC
  have key : ∀ j, j < ks.length → ∃ k x, ks[j]? = some k ∧ cs.toList[j]? = some (.int k x) ∧ (Lit.int k x).wf = true := by
    intro j hj
    have hjf : j < fs.size := by omega
    obtain ⟨f, hjf'⟩ : ∃ f, fs[j]? = some f := ⟨_, Array.getElem?_eq_getElem hjf⟩
    obtain ⟨ho, hc1⟩ := hone_of hone j f hjf'
    obtain ⟨k, hk1, hk2⟩ := hk j f hjf'
    have h1 := hfl j f hjf'
    rw [ho, hc1] at h1
    have hone' : ((cs.toList).drop j).take 1 = [cs.toList[j]'(by omega)] := by
      rw [List.drop_eq_getElem_cons (by omega)]
      rfl
    simp only [Value.cells] at h1
    rw [hone', List.getElem?_eq_getElem (by omega)] at h1
    obtain ⟨x, hx1, _, hx3⟩ := DataW.trod_int hk2 h1
    refine ⟨k, x, hk1, ?_, hx3⟩
    rw [List.getElem?_eq_getElem (by omega)]
    simp only [List.cons.injEq, and_true] at hx1
    rw [hx1]
  refine ⟨fun j => match cs.toList[j]? with | some (.int _ x) => x | _ => 0, ?_, fun j k hj => ?_⟩
  · congr 1
    apply Array.ext'
    apply List.ext_getElem?
    intro j
    by_cases hj : j < ks.length
    · obtain ⟨k, x, h1, h2, _⟩ := key j hj
      rw [h2]
      simp [hj, h1, h2, List.getD_eq_getElem?_getD]
      simp at h2
      rw [h2]
      exact ⟨by simp [List.getElem?_eq_getElem hj] at h1; exact h1.symm, rfl⟩
    · rw [List.getElem?_eq_none (by omega), List.getElem?_eq_none (by simp; omega)]
  · have hj' := (List.getElem?_eq_some_iff.1 hj).1
    obtain ⟨k', x, h1, h2, h3⟩ := key j hj'
    rw [hj] at h1
    cases h1
    show (Lit.int k (match cs.toList[j]? with | some (.int _ x) => x | _ => 0)).wf = true
    rw [h2]
    exact h3

theorem open_argS {r : Reach} {b0 : Nat} {t e : TypeId} {fs : Array Field} {v : Value} {d : DataW H} {ps : List MemPlace} (ht : P.underlying t = some (.slice e)) (he : P.underlying e = some (.struct fs))
    (hone : oneCellFields P fs = true) (hC : P.cellsOf e = fs.size) (ks : List IntKind) (hks : 0 < ks.length) (hl : fs.size = ks.length) (hk : ∀ (j : Nat) (f : Field), fs[j]? = some f → ∃ k, ks[j]? = some k ∧ P.underlying f.type = some (.int k))
    (hv : Value.okWide P w r b0 t v) (h : DataW.Trod enc P w 0 (fun _ => true) true t v d ps) :
    ∃ A n c z, v = .slice A n c ∧ ArgS ks w A n c z := by
  obtain ⟨A, n, c, rfl⟩ := okWide_slice ht hv
  obtain ⟨fuel, hf⟩ := h
  rcases open_slice ht hf with ⟨hcs, _⟩ | ⟨a, len, cap, m, n', D, Pl, hcs, _, hlc, hm, hmm, _, hi⟩
  · simp [Value.cells] at hcs
    obtain ⟨rfl, rfl, rfl⟩ := hcs
    exact ⟨_, 0, 0, fun _ _ => 0, rfl, Nat.le_refl _, by omega, fun h => by omega, fun i h => by omega⟩
  · simp [Value.cells] at hcs
    obtain ⟨rfl, rfl, rfl⟩ := hcs
    simp at hmm
    subst hmm
    have key : ∀ i, i < m → ∀ j k, ks[j]? = some k → ∃ x, w.cell? (a.add (i * ks.length + j)) = some (.int k x) ∧ (Lit.int k x).wf = true := by
      intro i him j k hj
      obtain ⟨cs', hc, ht'⟩ := hi i him
      rw [hC, hl] at hc
      obtain ⟨ys, n'', hn', hy, hlen, hyl, hfl⟩ := DataW.trod_struct he ht'
      obtain ⟨_, hcl, hat⟩ := World.cells?_some hc
      have hj' := (List.getElem?_eq_some_iff.1 hj).1
      obtain ⟨f, hjf'⟩ : ∃ f, fs[j]? = some f := ⟨_, Array.getElem?_eq_getElem (by omega)⟩
      obtain ⟨ho, hc1⟩ := hone_of hone j f hjf'
      obtain ⟨k', hk1, hk2⟩ := hk j f hjf'
      rw [hj] at hk1
      cases hk1
      have hcell := hat j (by omega)
      have h1 := hfl j f hjf'
      rw [ho, hc1] at h1
      have hone' : (cs'.drop j).take 1 = [cs'[j]'(by omega)] := by
        rw [List.drop_eq_getElem_cons (by omega)]
        rfl
      rw [hone', List.getElem?_eq_getElem (by omega)] at h1
      obtain ⟨x, hx1, _, hx3⟩ := DataW.trod_int hk2 h1
      simp only [List.cons.injEq, and_true] at hx1
      refine ⟨x, ?_, hx3⟩
      rw [← Go.Deep.add_add, hcell, List.getElem?_eq_getElem (by omega), hx1]
    refine ⟨_, n, m, fun i j => match w.cell? (a.add (i * ks.length + j)) with | some (.int _ x) => x | _ => 0, rfl, hlc, by simpa [maxLen] using hm, fun hn => ?_, fun i hin j k hj => ?_⟩
    · obtain ⟨k0, hk0⟩ : ∃ k, ks[0]? = some k := ⟨_, List.getElem?_eq_getElem hks⟩
      obtain ⟨x, hx, _⟩ := key 0 (by omega) 0 k0 hk0
      obtain ⟨g, o, s⟩ := a
      have hs := World.cell?_spot hx
      simp [Addr.add] at hs
      subst hs
      have hlt := cell?_lt hx
      simp [Addr.add] at hlt
      refine ⟨g, o, rfl, hlt, fun i hin j k hj => ?_⟩
      obtain ⟨x, hx, _⟩ := key i (by omega) j k hj
      show _ = some (Value.int k (match w.cell? ((⟨g, o, none⟩ : Addr).add (i * ks.length + j)) with | some (.int _ x) => x | _ => 0))
      rw [hx]
      rw [Addr.add_lit] at hx
      exact hx
    · obtain ⟨x, hx, hw⟩ := key i (by omega) j k hj
      show (Lit.int k (match w.cell? (a.add (i * ks.length + j)) with | some (.int _ x) => x | _ => 0)).wf = true
      rw [hx]
      exact hw

theorem open_arr {r : Reach} {b0 : Nat} {t e n : Nat} {k : IntKind} {v : Value} {d : DataW H} {ps : List MemPlace} (hs : P.underlying t = some (.array n e)) (he : P.underlying e = some (.int k)) (hc : P.cellsOf e = 1) (hC : P.cellsOf t = n)
    (hv : Value.okWide P w r b0 t v) (h : DataW.Trod enc P w 0 (fun _ => true) true t v d ps) :
    ∃ z : Nat → Int, v = .agg ((List.range n).map fun j => Value.int k (z j)).toArray ∧ ∀ j, j < n → (Lit.int k (z j)).wf = true := by
  obtain ⟨cs, rfl, hsz⟩ : ∃ cs, v = .agg cs ∧ cs.size = P.cellsOf t := by
    simp only [Value.okWide, hs] at hv
    obtain ⟨cs, h1, h2, _⟩ := hv
    exact ⟨cs, h1, h2⟩
  obtain ⟨fuel, hf⟩ := h
  obtain ⟨ys, n', hn', hy, hlen, hyl, hfl⟩ := DataW.trod_array hs hf
  have hcl : cs.toList.length = n := by simpa using hsz.trans hC
  have key : ∀ j, j < n → ∃ x, cs.toList[j]? = some (.int k x) ∧ (Lit.int k x).wf = true := by
    intro j hj
    have h1 := hfl j hj
    rw [hc, Nat.mul_one] at h1
    have hone' : ((cs.toList).drop j).take 1 = [cs.toList[j]'(by omega)] := by
      rw [List.drop_eq_getElem_cons (by omega)]
      rfl
    simp only [Value.cells] at h1
    rw [hone', List.getElem?_eq_getElem (by omega)] at h1
    obtain ⟨x, hx1, _, hx3⟩ := DataW.trod_int he h1
    refine ⟨x, ?_, hx3⟩
    rw [List.getElem?_eq_getElem (by omega)]
    simp only [List.cons.injEq, and_true] at hx1
    rw [hx1]
  refine ⟨fun j => match cs.toList[j]? with | some (.int _ x) => x | _ => 0, ?_, fun j hj => ?_⟩
  · congr 1
    apply Array.ext'
    apply List.ext_getElem?
    intro j
    by_cases hj : j < n
    · obtain ⟨x, h2, _⟩ := key j hj
      rw [h2]
      simp [hj]
      simp at h2
      rw [h2]
    · rw [List.getElem?_eq_none (by omega), List.getElem?_eq_none (by simp; omega)]
  · obtain ⟨x, h2, h3⟩ := key j hj
    show (Lit.int k (match cs.toList[j]? with | some (.int _ x) => x | _ => 0)).wf = true
    rw [h2]
    exact h3

end

end Go.Proofs.Ytoiafopndlnknaa
