/-
  What Set, Reverse, Split and Join do, plainly.
-/
import Derived.Test.YtgichkjomhnehaaM5
set_option linter.unusedVariables false
set_option linter.unusedSimpArgs false
namespace Go.Proofs.Ytgichkjomhnehaa

def putV (V : Nat → Int) (i : Nat) (v : Int) : Nat → Int := fun j => if j = i then v else V j
theorem putV_at (V : Nat → Int) (i : Nat) (v : Int) : putV V i v i = v := by simp [putV]
theorem putV_ne (V : Nat → Int) {i j : Nat} (v : Int) (h : j ≠ i) : putV V i v j = V j := by simp [putV, h]
section
variable {V : Nat → Int} {st : Nat → Nd} {n : Nat} {S : Nat → List Nat} {l r : T} {z : Nat} {F : List T}
/-- a root and its subtrees -/
theorem root_parts (h : Sq V st n S (.node l z false r :: F)) : z ≠ 0 ∧ z ≤ n ∧ z ∉ l.ids ∧ z ∉ r.ids ∧ l.ids.Nodup ∧ r.ids.Nodup ∧ (∀ j ∈ l.ids, j ∉ r.ids) ∧ (st z).up = 0 ∧ (st z).k0 = l.root ∧ (st z).k1 = r.root ∧ (st z).flip = false ∧ (st z).v = V z ∧ Rep V st z l ∧ Rep V st z r := by
  have hr := h.1.rep _ (List.mem_cons_self ..)
  have hnd := h.1.nd
  rw [allIds_cons] at hnd
  have hd := (List.nodup_append.1 hnd).1
  have hz := (h.1.all z).1 (by rw [allIds_cons]; simp [T.ids])
  unfold T.ids at hd
  have hd' := List.nodup_append.1 hd
  have hi := List.nodup_cons.1 hd'.2.1
  obtain ⟨⟨h0, hu, e0, e1, ef, ev, ha⟩, hl, hr2⟩ := hr
  exact ⟨h0, hz.2, fun e => hd'.2.2 z e z (by simp) rfl, hi.1, hd'.1, hi.2, fun j h1 h2 => hd'.2.2 j h1 j (by simp [h2]) rfl, hu, e0, e1, ef, ev, hl, hr2⟩
theorem one_perm (t : T) : (allIds [t]) = t.ids := by simp [allIds]
theorem fit_putV (hF : Fit V) {v : Int} (hv : -9223372036854775808 ≤ v ∧ v ≤ 9223372036854775807) : Fit (putV V z v) := fun i => by
  unfold putV
  split
  · exact hv
  · exact hF i
theorem set_plain (hF : Fit V) (h : Sq V st n S (.node l z false r :: F)) {v : Int} (hv : -9223372036854775808 ≤ v ∧ v ≤ 9223372036854775807) :
    Over (putV V z v) (put st z { st z with v := v }) z (T.node l z false r).ids ∧ Sq (putV V z v) (refreshF (put st z { st z with v := v }) z) n S (.node l z false r :: F) := by
  obtain ⟨h0, hzn, nl, nr, dl, dr, dlr, hu, e0, e1, ef, ev, hl, hr⟩ := root_parts h
  have off : ∀ j, j ≠ z → put st z { st z with v := v } j = st j := fun j hj => put_ne _ _ hj
  have Rl : Rep (putV V z v) (put st z { st z with v := v }) z l := (hl.congr fun j hj => off j (fun e => nl (e ▸ hj))).congrV fun j hj => (putV_ne V (i := z) v (fun e : j = z => nl (e ▸ hj))).symm
  have Rr : Rep (putV V z v) (put st z { st z with v := v }) z r := (hr.congr fun j hj => off j (fun e => nr (e ▸ hj))).congrV fun j hj => (putV_ne V (i := z) v (fun e : j = z => nr (e ▸ hj))).symm
  have hz : put st z { st z with v := v } z = { st z with v := v } := put_at _ _ _
  refine ⟨⟨l, r, Rl, Rr, by rw [hz]; exact e0, by rw [hz]; exact e1, fun j hj => ?_, by simp [T.ids], by simp [T.ids]; omega, by rw [hz, putV_at]⟩, ?_⟩
  · rcases hj with hj | hj
    · exact ⟨by simp [T.ids, hj], fun e => nl (e ▸ hj)⟩
    · exact ⟨by simp [T.ids, hj], fun e => nr (e ▸ hj)⟩
  · have R := node_refresh (fit_putV hF hv) Rl Rr h0 (by rw [hz]; exact e0) (by rw [hz]; exact e1) (by rw [hz, putV_at]) nl nr
    rw [hz] at R
    have R : Rep (putV V z v) (refreshF (put st z { st z with v := v }) z) 0 (.node l z false r) := by
      have : ({ st z with v := v } : Nd).flip = false := ef
      rw [this] at R
      rw [← hu]
      exact R
    refine Sq.turn (A := [.node l z false r]) (A' := [.node l z false r]) h (fun t ht => by rw [List.mem_singleton.1 ht]; exact R) (List.Perm.refl _) (fun j hj => ?_) (fun t ht x hx => ?_) (fun x hx => rfl)
    · have hjz : j ≠ z := fun e => hj (by rw [one_perm, e]; simp [T.ids])
      exact ⟨(put_ne _ _ hjz).trans (off j hjz), putV_ne V v hjz⟩
    · rw [List.mem_singleton.1 ht] at hx ⊢
      exact h.2 _ (List.mem_cons_self ..) x hx
theorem reverse_plain (h : Sq V st n S (.node l z false r :: F)) :
    Sq V (put st z { st z with flip := true }) n (fun y => if y ∈ (T.node l z false r).ids then (l.seq ++ z :: r.seq).reverse else S y) (.node l z true r :: F) := by
  obtain ⟨h0, hzn, nl, nr, dl, dr, dlr, hu, e0, e1, ef, ev, hl, hr⟩ := root_parts h
  have off : ∀ j, j ≠ z → put st z { st z with flip := true } j = st j := fun j hj => put_ne _ _ hj
  have hz : put st z { st z with flip := true } z = { st z with flip := true } := put_at _ _ _
  have ha := (h.1.rep _ (List.mem_cons_self ..)).1.2.2.2.2.2.2
  have R : Rep V (put st z { st z with flip := true }) 0 (.node l z true r) := by
    refine ⟨?_, hl.congr fun j hj => off j (fun e => nl (e ▸ hj)), hr.congr fun j hj => off j (fun e => nr (e ▸ hj))⟩
    rw [hz]
    exact ⟨h0, hu, e0, e1, rfl, ev, ha.congr rfl rfl rfl rfl⟩
  refine Sq.turn (A := [.node l z false r]) (A' := [.node l z true r]) h (fun t ht => by rw [List.mem_singleton.1 ht]; exact R) (List.Perm.refl _) (fun j hj => ⟨off j (fun e => hj (by rw [one_perm, e]; simp [T.ids])), rfl⟩) (fun t ht x hx => ?_) (fun x hx => ?_)
  · rw [List.mem_singleton.1 ht] at hx ⊢
    rw [if_pos (show x ∈ (T.node l z false r).ids from hx)]
    simp [T.seq]
  · rw [one_perm] at hx
    rw [if_neg hx]
def cutF (st : Nat → Nd) (k z : Nat) : Nat → Nd := put (put st k { st k with up := 0 }) z { put st k { st k with up := 0 } z with k0 := 0 }
theorem split_plain (hF : Fit V) (h : Sq V st n S (.node l z false r :: F)) (hl0 : l.root ≠ 0) :
    Over V (cutF st l.root z) z (T.node l z false r).ids ∧ Sq V (refreshF (cutF st l.root z) z) n (fun y => if y ∈ l.ids then l.seq else if y ∈ (T.node .nil z false r).ids then z :: r.seq else S y) (l :: .node .nil z false r :: F) := by
  obtain ⟨h0, hzn, nl, nr, dl, dr, dlr, hu, e0, e1, ef, ev, hl, hr⟩ := root_parts h
  have hkl := root_ids hl0
  have hkz : l.root ≠ z := fun e => nl (e ▸ hkl)
  have cz : cutF st l.root z z = { st z with k0 := 0 } := by
    unfold cutF
    rw [put_at, put_ne _ _ (Ne.symm hkz)]
  have ck : cutF st l.root z l.root = { st l.root with up := 0 } := by
    unfold cutF
    rw [put_ne _ _ hkz, put_at]
  have cj : ∀ j, j ≠ z → j ≠ l.root → cutF st l.root z j = st j := fun j h1 h2 => by
    unfold cutF
    rw [put_ne _ _ h1, put_ne _ _ h2]
  have Rl : Rep V (cutF st l.root z) 0 l := hl.setUp dl (fun j hj hne => cj j (fun e => nl (e ▸ hj)) hne) (fun _ => ck)
  have Rr : Rep V (cutF st l.root z) z r := hr.congr fun j hj => cj j (fun e => nr (e ▸ hj)) (fun e => dlr _ hkl (e ▸ hj))
  refine ⟨⟨.nil, r, trivial, Rr, by rw [cz]; rfl, by rw [cz]; exact e1, fun j hj => ?_, by simp [T.ids], by simp [T.ids]; omega, by rw [cz]; exact ev⟩, ?_⟩
  · rcases hj with hj | hj
    · simp [T.ids] at hj
    · exact ⟨by simp [T.ids, hj], fun e => nr (e ▸ hj)⟩
  · have R := node_refresh hF (l := .nil) (r := r) (st := cutF st l.root z) (i := z) trivial Rr h0 (by rw [cz]; rfl) (by rw [cz]; exact e1) (by rw [cz]; exact ev) (by simp [T.ids]) nr
    rw [cz] at R
    have R : Rep V (refreshF (cutF st l.root z) z) 0 (.node .nil z false r) := by
      have : ({ st z with k0 := 0 } : Nd).flip = false := ef
      rw [this] at R
      rw [← hu]
      exact R
    have Rl2 : Rep V (refreshF (cutF st l.root z) z) 0 l := Rl.congr fun j hj => put_ne _ _ (fun e => nl (e ▸ hj))
    refine Sq.turn (A := [.node l z false r]) (A' := [l, .node .nil z false r]) h (fun t ht => ?_) (by simp [allIds, T.ids]) (fun j hj => ?_) (fun t ht x hx => ?_) (fun x hx => ?_)
    · rcases List.mem_cons.1 ht with rfl | ht
      · exact Rl2
      · rw [List.mem_singleton.1 ht]; exact R
    · rw [one_perm] at hj
      have hjz : j ≠ z := fun e => hj (by rw [e]; simp [T.ids])
      have hjl : j ≠ l.root := fun e => hj (by rw [e]; simp [T.ids, hkl])
      exact ⟨(put_ne _ _ hjz).trans (cj j hjz hjl), rfl⟩
    · rcases List.mem_cons.1 ht with rfl | ht
      · rw [if_pos hx]
      · rw [List.mem_singleton.1 ht] at hx ⊢
        have hxl : x ∉ l.ids := fun e => by
          simp only [T.ids, List.nil_append, List.mem_cons] at hx
          rcases hx with rfl | hx
          · exact nl e
          · exact dlr x e hx
        rw [if_neg hxl, if_pos hx]
        simp [T.seq]
    · rw [one_perm] at hx
      rw [if_neg (fun e => hx (by simp [T.ids, e])), if_neg (fun e => hx (by
        simp only [T.ids, List.nil_append, List.mem_cons] at e
        rcases e with rfl | e
        · simp [T.ids]
        · simp [T.ids, e]))]
theorem join_plain {a c : T} {y : Nat} (hF : Fit V) (h : Sq V st n S (.node l z false .nil :: .node a y false c :: F)) :
    Over V (hangF st z true y) z ((T.node l z false .nil).ids ++ (T.node a y false c).ids) ∧ Sq V (refreshF (hangF st z true y) z) n (fun x => if x ∈ (T.node l z false .nil).ids ∨ x ∈ (T.node a y false c).ids then (l.seq ++ [z]) ++ (a.seq ++ y :: c.seq) else S x) (.node l z false (.node a y false c) :: F) := by
  obtain ⟨h0, hzn, nl, nr, dl, dr, dlr, hu, e0, e1, ef, ev, hl, hr⟩ := root_parts h
  have hnd := h.1.nd
  rw [allIds_cons, allIds_cons] at hnd
  have hd := List.nodup_append.1 hnd
  have hd2 := List.nodup_append.1 hd.2.1
  have hty := h.1.rep (.node a y false c) (by simp)
  have hy0 : y ≠ 0 := hty.1.1
  have apart : ∀ j ∈ (T.node l z false .nil).ids, j ∉ (T.node a y false c).ids := fun j h1 h2 => hd.2.2 j h1 j (by simp [h2]) rfl
  have hzy : z ≠ y := fun e => apart z (by simp [T.ids]) (by rw [e]; simp [T.ids])
  have cz : hangF st z true y z = { st z with k1 := y } := hang_top hzy
  have cy : hangF st z true y y = { st y with up := z } := hang_kid hzy hy0
  have cj : ∀ j, j ≠ z → j ≠ y → hangF st z true y j = st j := fun j h1 h2 => hang_keep h1 h2
  have inl : ∀ j ∈ l.ids, j ≠ z ∧ j ≠ y := fun j hj => ⟨fun e => nl (e ▸ hj), fun e => apart j (by simp [T.ids, hj]) (by rw [e]; simp [T.ids])⟩
  have Rl : Rep V (hangF st z true y) z l := hl.congr fun j hj => cj j (inl j hj).1 (inl j hj).2
  have Ry : Rep V (hangF st z true y) z (.node a y false c) := hty.setUp hd2.1 (fun j hj hne => cj j (fun e => apart z (by simp [T.ids]) (e ▸ hj)) hne) (fun _ => cy)
  have nz : z ∉ (T.node a y false c).ids := apart z (by simp [T.ids])
  refine ⟨⟨l, .node a y false c, Rl, Ry, by rw [cz]; exact e0, by rw [cz]; rfl, fun j hj => ?_, by simp [T.ids], by simp [T.ids]; omega, by rw [cz]; exact ev⟩, ?_⟩
  · rcases hj with hj | hj
    · exact ⟨by simp [T.ids, hj], fun e => nl (e ▸ hj)⟩
    · exact ⟨List.mem_append_right _ hj, fun e => nz (e ▸ hj)⟩
  · have R := node_refresh hF Rl Ry h0 (by rw [cz]; exact e0) (by rw [cz]; rfl) (by rw [cz]; exact ev) nl nz
    rw [cz] at R
    have R : Rep V (refreshF (hangF st z true y) z) 0 (.node l z false (.node a y false c)) := by
      have : ({ st z with k1 := y } : Nd).flip = false := ef
      rw [this] at R
      rw [← hu]
      exact R
    refine Sq.turn (A := [.node l z false .nil, .node a y false c]) (A' := [.node l z false (.node a y false c)]) h (fun t ht => by rw [List.mem_singleton.1 ht]; exact R) (by simp [allIds, T.ids]) (fun j hj => ?_) (fun t ht x hx => ?_) (fun x hx => ?_)
    · have hjz : j ≠ z := fun e => hj (by rw [e]; simp [allIds, T.ids])
      have hjy : j ≠ y := fun e => hj (by rw [e]; simp [allIds, T.ids])
      exact ⟨(put_ne _ _ hjz).trans (cj j hjz hjy), rfl⟩
    · rw [List.mem_singleton.1 ht] at hx ⊢
      rw [if_pos (by
        simp only [T.ids, List.mem_append, List.mem_cons] at hx ⊢
        rcases hx with hx | rfl | hx | rfl | hx <;> simp [*])]
      simp [T.seq]
    · rw [if_neg (fun e => hx (by
        simp only [allIds, List.flatMap_cons, List.flatMap_nil, List.append_nil, List.mem_append]
        exact e))]
end
end Go.Proofs.Ytgichkjomhnehaa
