/-
  Arguments opened: a struct of four slices, two of integers, two of structs of integers.
-/
import Derived.Test.YtcmkjbliiggcbaaA1
set_option linter.unusedVariables false
set_option linter.unusedSimpArgs false
namespace Go.Proofs.Ytcmkjbliiggcbaa
open Go.ChangeShapes Go.WideShapes Go.ChangeAt Go.RowKit Go.Deep
section
variable {H : Type} {enc : TypeId × Value → H} {P : Program} {w : World}

theorem fld_argN {t e : TypeId} {k : IntKind} {fuel : Nat} {vs : List Value} {x : DataW H × List MemPlace} (ht : P.underlying t = some (.slice e)) (he : P.underlying e = some (.int k)) (hc : P.cellsOf e = 1)
    (hf : DataW.trod enc P w 0 (fun _ => true) true fuel t vs = some x) :
    ∃ A n c z, vs = [.slice A n c] ∧ ArgI k w A n c z ∧ (A = none → n = 0 ∧ c = 0) := by
  rcases open_ints ht he hc hf with ⟨hcs, _⟩ | ⟨x, l, c', zs, hcs, _, hl, hm, hz, _, hcell, hwz⟩
  · exact ⟨none, 0, 0, fun _ => 0, hcs, ⟨Nat.le_refl _, by omega, fun h => by omega, fun i h => by omega⟩, fun _ => ⟨rfl, rfl⟩⟩
  · simp at hz
    refine ⟨some x, l, c', fun i => zs.getD i 0, hcs, ⟨hl, by simpa [maxLen] using hm, fun hn => ?_, fun i hi => ?_⟩, fun h => nomatch h⟩
    · have h0 := hcell 0 (by omega)
      obtain ⟨g, o, s⟩ := x
      have hs := World.cell?_spot h0
      simp [Addr.add] at hs
      subst hs
      have hlt := cell?_lt h0
      simp [Addr.add] at hlt
      refine ⟨g, o, rfl, hlt, fun i hi => ?_⟩
      have := hcell i (by omega)
      rw [Addr.add_lit] at this
      exact this
    · refine hwz _ ?_
      show zs.getD i 0 ∈ zs
      rw [List.getD_eq_getElem?_getD, List.getElem?_eq_getElem (by omega)]
      exact List.getElem_mem _

theorem fld_argS {t e : TypeId} {fs : Array Field} {fuel : Nat} {vs : List Value} {y : DataW H × List MemPlace} (ht : P.underlying t = some (.slice e)) (he : P.underlying e = some (.struct fs))
    (hone : oneCellFields P fs = true) (hC : P.cellsOf e = fs.size) (ks : List IntKind) (hks : 0 < ks.length) (hl : fs.size = ks.length) (hk : ∀ (j : Nat) (f : Field), fs[j]? = some f → ∃ k, ks[j]? = some k ∧ P.underlying f.type = some (.int k))
    (hf : DataW.trod enc P w 0 (fun _ => true) true fuel t vs = some y) :
    ∃ A n c z, vs = [.slice A n c] ∧ ArgS ks w A n c z := by
  rcases open_slice ht hf with ⟨hcs, _⟩ | ⟨a, len, cap, m, n', D, Pl, hcs, _, hlc, hm, hmm, _, hi⟩
  · exact ⟨none, 0, 0, fun _ _ => 0, hcs, Nat.le_refl _, by omega, fun h => by omega, fun i h => by omega⟩
  · simp at hmm
    subst hmm
    have key : ∀ i, i < m → ∀ j k, ks[j]? = some k → ∃ x, w.cell? (a.add (i * ks.length + j)) = some (.int k x) ∧ (Lit.int k x).wf = true := by
      intro i him j k hj
      obtain ⟨cs', hc, ht'⟩ := hi i him
      rw [hC, hl] at hc
      obtain ⟨ys, n'', hn', hy, hlen, hyl, hfl⟩ := DataW.trod_struct he ht'
      obtain ⟨_, hcl, hat⟩ := World.cells?_some hc
      have hj' := (List.getElem?_eq_some_iff.1 hj).1
      obtain ⟨f, hjf'⟩ : ∃ f, fs[j]? = some f := ⟨_, Array.getElem?_eq_getElem (by omega)⟩
      obtain ⟨ho, hc1⟩ := hone_of hone j f hjf'
      obtain ⟨k', hk1, hk2⟩ := hk j f hjf'
      rw [hj] at hk1
      cases hk1
      have hcell := hat j (by omega)
      have h1 := hfl j f hjf'
      rw [ho, hc1] at h1
      have hone' : (cs'.drop j).take 1 = [cs'[j]'(by omega)] := by
        rw [List.drop_eq_getElem_cons (by omega)]
        rfl
      rw [hone', List.getElem?_eq_getElem (by omega)] at h1
      obtain ⟨x, hx1, _, hx3⟩ := DataW.trod_int hk2 h1
      simp only [List.cons.injEq, and_true] at hx1
      refine ⟨x, ?_, hx3⟩
      rw [← Go.Deep.add_add, hcell, List.getElem?_eq_getElem (by omega), hx1]
    refine ⟨some a, len, m, fun i j => match w.cell? (a.add (i * ks.length + j)) with | some (.int _ x) => x | _ => 0, hcs, hlc, by simpa [maxLen] using hm, fun hn => ?_, fun i hin j k hj => ?_⟩
    · obtain ⟨k0, hk0⟩ : ∃ k, ks[0]? = some k := ⟨_, List.getElem?_eq_getElem hks⟩
      obtain ⟨x, hx, _⟩ := key 0 (by omega) 0 k0 hk0
      obtain ⟨g, o, s⟩ := a
      have hs := World.cell?_spot hx
      simp [Addr.add] at hs
      subst hs
      have hlt := cell?_lt hx
      simp [Addr.add] at hlt
      refine ⟨g, o, rfl, hlt, fun i hin j k hj => ?_⟩
      obtain ⟨x, hx, _⟩ := key i (by omega) j k hj
      show _ = some (Value.int k (match w.cell? ((⟨g, o, none⟩ : Addr).add (i * ks.length + j)) with | some (.int _ x) => x | _ => 0))
      rw [hx]
      rw [Addr.add_lit] at hx
      exact hx
    · obtain ⟨x, hx, hw⟩ := key i (by omega) j k hj
      show (Lit.int k (match w.cell? (a.add (i * ks.length + j)) with | some (.int _ x) => x | _ => 0)).wf = true
      rw [hx]
      exact hw

/-- a struct of four slices -/
theorem open_two {r : Reach} {b0 : Nat} {t ei es : TypeId} {fs gs : Array Field} {k : IntKind} {v : Value} {d : DataW H} {ps : List MemPlace} (hs : P.underlying t = some (.struct fs)) (hone : oneCellFields P fs = true) (hC : P.cellsOf t = fs.size) (h4 : fs.size = 4)
    (g0 : ∀ f, fs[0]? = some f → P.underlying f.type = some (.slice ei)) (g1 : ∀ f, fs[1]? = some f → P.underlying f.type = some (.slice ei)) (g2 : ∀ f, fs[2]? = some f → P.underlying f.type = some (.slice es)) (g3 : ∀ f, fs[3]? = some f → P.underlying f.type = some (.slice es))
    (he : P.underlying ei = some (.int k)) (hc : P.cellsOf ei = 1) (hes : P.underlying es = some (.struct gs)) (hgone : oneCellFields P gs = true) (hgC : P.cellsOf es = gs.size) (ks : List IntKind) (hks : 0 < ks.length) (hl : gs.size = ks.length) (hk : ∀ (j : Nat) (f : Field), gs[j]? = some f → ∃ k, ks[j]? = some k ∧ P.underlying f.type = some (.int k))
    (hv : Value.okWide P w r b0 t v) (h : DataW.Trod enc P w 0 (fun _ => true) true t v d ps) :
    ∃ A n c z A' n' c' z' L m d' y L' m' d'' y', v = .agg #[.slice A n c, .slice A' n' c', .slice L m d', .slice L' m' d''] ∧
      ArgI k w A n c z ∧ (A = none → n = 0 ∧ c = 0) ∧ ArgI k w A' n' c' z' ∧ (A' = none → n' = 0 ∧ c' = 0) ∧ ArgS ks w L m d' y ∧ ArgS ks w L' m' d'' y' := by
  obtain ⟨cs, rfl, hsz⟩ := okWide_struct hs hv
  obtain ⟨fuel, hf⟩ := h
  obtain ⟨ys, n', hn', hy, hlen, hyl, hfl⟩ := DataW.trod_struct hs hf
  have hcl : cs.toList.length = 4 := by simpa using (hsz.trans hC).trans h4
  have key : ∀ j, j < 4 → ∃ f u, fs[j]? = some f ∧ cs.toList[j]? = some u ∧ ∃ x, DataW.trod enc P w 0 (fun _ => true) true n' f.type [u] = some x := by
    intro j hj
    obtain ⟨f, hjf'⟩ : ∃ f, fs[j]? = some f := ⟨_, Array.getElem?_eq_getElem (by omega)⟩
    obtain ⟨ho, hc1⟩ := hone_of hone j f hjf'
    have h1 := hfl j f hjf'
    rw [ho, hc1] at h1
    have hone' : ((cs.toList).drop j).take 1 = [cs.toList[j]'(by omega)] := by
      rw [List.drop_eq_getElem_cons (by omega)]
      rfl
    simp only [Value.cells] at h1
    rw [hone', List.getElem?_eq_getElem (by omega)] at h1
    exact ⟨f, _, hjf', List.getElem?_eq_getElem (by omega), _, h1⟩
  obtain ⟨f0, u0, a0, b0, x0, t0⟩ := key 0 (by decide)
  obtain ⟨f1, u1, a1, b1, x1, t1⟩ := key 1 (by decide)
  obtain ⟨f2, u2, a2, b2, x2, t2⟩ := key 2 (by decide)
  obtain ⟨f3, u3, a3, b3, x3, t3⟩ := key 3 (by decide)
  obtain ⟨A, n, c, z, e0, r0, s0⟩ := fld_argN (g0 f0 a0) he hc t0
  obtain ⟨A', n'', c', z', e1, r1, s1⟩ := fld_argN (g1 f1 a1) he hc t1
  obtain ⟨L, m, d', y, e2, r2⟩ := fld_argS (g2 f2 a2) hes hgone hgC ks hks hl hk t2
  obtain ⟨L', m', d'', y', e3, r3⟩ := fld_argS (g3 f3 a3) hes hgone hgC ks hks hl hk t3
  simp only [List.cons.injEq, and_true] at e0 e1 e2 e3
  subst e0 e1 e2 e3
  refine ⟨A, n, c, z, A', n'', c', z', L, m, d', y, L', m', d'', y', ?_, r0, s0, r1, s1, r2, r3⟩
  congr 1
  apply Array.ext'
  match h : cs.toList, hcl with
  | [q0, q1, q2, q3], _ =>
    rw [h] at b0 b1 b2 b3
    simp at b0 b1 b2 b3
    rw [b0, b1, b2, b3]
end
end Go.Proofs.Ytcmkjbliiggcbaa
