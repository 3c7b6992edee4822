/-
  Questions: Pos, Same, At.
-/
import Derived.Test.YtgichkjomhnehaaW12
import Derived.Deep.RegionWith
set_option linter.unusedVariables false
set_option linter.unusedSimpArgs false
namespace Go.Proofs.Ytgichkjomhnehaa
open Go.RowKit Go.Shelf

theorem turns_cell {P : Nat → Prop} {w w' : World} (h : Turns P w w') {k : Nat} (i : Nat) (hk : k < w.heap.size) (hP : ¬ P k) : w'.cell? ⟨k, i, none⟩ = w.cell? ⟨k, i, none⟩ := by
  have := h.block k hk hP
  unfold World.cell?
  simp only [this]
set_option maxRecDepth 100000 in
theorem pos_ok (b s n : Nat) (Q : Nat → List Nat) (U : Nat → Int) (x : Nat) (w : World) (h : SQ w b s n Q U) (hx : x < n) :
    Calls Try.prog 15 #[.pointer (some ⟨b, 0, none⟩), .int .i64 (x : Int)] w fun e w' => ∃ k : Nat, e = .returned (.int .i64 (k : Int)) ∧ IsPos Q x k ∧ SQ w' b s n Q U ∧ Turns (· = s) w w' := by
  have x0 := hasQ_ok b s n Q U (x : Int) w h
  rw [hasB_nat hx] at x0
  have hD : SQ w.drew b s n Q U := h
  have x1 := liftQ_ok b s n Q U x w.drew hD hx
  have hlt := h.lt
  obtain ⟨c, c1, c2, c3⟩ : ∃ c, w.cell? ⟨b, 1, none⟩ = some (.slice (some ⟨s, 0, none⟩) (n + 1) c) ∧ n + 1 ≤ c ∧ c ≤ 9223372036854775807 := by obtain ⟨_, st, V, S, F, h1, _⟩ := h; exact h1.cell1
  have hn := h.1
  have T0 := (Turns.refl (· = s) w).drew
  have fin : ∀ w1 st V S l r F, Up w1 b s n Q U x st V S l r F → Turns (· = s) w.drew w1 → w1.cell? ⟨b, 1, none⟩ = some (.slice (some ⟨s, 0, none⟩) (n + 1) c) ∧ w1.cell? ⟨s, (x + 1) * 9, none⟩ = some (.int .i64 (l.root : Int)) ∧ w1.cell? ⟨s, l.root * 9 + 5, none⟩ = some (.int .i64 (l.seq.length : Int)) ∧ l.root ≤ n := fun w1 st V S l r F hU hT => by
    have hk := hU.kid
    have a0 : w1.cell? ⟨s, (x + 1) * 9, none⟩ = some (.int .i64 ((st (x + 1)).k0 : Int)) := hU.2.1.2.cell (i := x + 1) (by omega) 0 (by decide)
    have a5 : w1.cell? ⟨s, l.root * 9 + 5, none⟩ = some (.int .i64 ((st l.root).size : Int)) := hU.2.1.2.cell hk.2.1 5 (by decide)
    rw [hk.1] at a0
    rw [hU.pos] at a5
    exact ⟨(turns_cell hT 1 hlt.1 (by exact hlt.2.2)).trans c1, a0, a5, hk.2.1⟩
  have FIN := Lib.hid fin
  have HC := Lib.hid c3
  clear fin h hD hlt c3
  go_enter Try.func15, Try.ntmps15
  go_wp2_with fail
  refine x0.mono ?_
  rintro e w' ⟨rfl, rfl⟩
  go_upto_region 3 with fail
  go_region_with (go_at_call 39; (with_reducible refine x1.mono ?_); rintro e w1 ⟨rfl, ⟨st, V, S, l, r, F, hU⟩, hT⟩; obtain ⟨k1, k2, k3, k4⟩ := FIN.out w1 st V S l r F hU hT; have HU := Lib.hid hU; clear hU; have k5 : (l.root : Int) < (n : Int) + 1 := by omega)
  all_goals
    go_wp2_with fail
    go_ret
    exact ⟨l.seq.length, rfl, HU.out.idx, HU.out.sq, T0.trans hT⟩
theorem Rep.up_in {V : Nat → Int} {st : Nat → Nd} : ∀ {t : T} {p : Nat}, Rep V st p t → ∀ j ∈ t.ids, j ≠ t.root → (st j).up ∈ t.ids
  | .nil, _, _, j, hj, _ => by simp [T.ids] at hj
  | .node l i f r, p, ⟨h, hl, hr⟩, j, hj, hne => by
    simp only [T.ids, List.mem_append, List.mem_cons] at hj ⊢
    have key : ∀ u : T, Rep V st i u → j ∈ u.ids → (j ≠ u.root → (st j).up ∈ u.ids) → (st j).up = i ∨ (st j).up ∈ u.ids := fun u hu hju hk => by
      by_cases e : j = u.root
      · left
        cases u with
        | nil => simp [T.ids] at hju
        | node a k g c => obtain rfl : j = k := e; exact hu.1.2.1
      · exact Or.inr (hk e)
    rcases hj with hj | rfl | hj
    · rcases key l hl hj (hl.up_in j hj) with e | e
      · exact Or.inr (Or.inl e)
      · exact Or.inl e
    · exact (hne rfl).elim
    · rcases key r hr hj (hr.up_in j hj) with e | e
      · exact Or.inr (Or.inl e)
      · exact Or.inr (Or.inr e)
theorem Up.mem {w : World} {b s n x y : Nat} {Q : Nat → List Nat} {U : Nat → Int} {st : Nat → Nd} {V : Nat → Int} {S : Nat → List Nat} {l r : T} {F : List T} (h : Up w b s n Q U x st V S l r F) : y ∈ Q x ↔ y + 1 ∈ (T.node l (x + 1) false r).ids := by
  rw [← (T.seq_perm (.node l (x + 1) false r)).mem_iff, show (T.node l (x + 1) false r).seq = l.seq ++ (x + 1) :: r.seq from rfl, ← h.seq]
  constructor
  · intro hy
    exact List.mem_map.2 ⟨y, hy, rfl⟩
  · intro hy
    obtain ⟨z, hz, e⟩ := List.mem_map.1 hy
    obtain rfl : z = y := by omega
    exact hz
/-- a second node made the root of another tree: the first stays one -/
theorem lift_two (b s n : Nat) (Q : Nat → List Nat) (U : Nat → Int) (x y : Nat) (st : Nat → Nd) (V : Nat → Int) (S : Nat → List Nat) (l r : T) (F : List T) (w : World) (h : Up w b s n Q U x st V S l r F) (hy : y < n) (hxy : y ∉ Q x) :
    Calls Try.prog 39 #[.pointer (some ⟨b, 0, none⟩), .int .i64 (y : Int)] w fun e w' => e = .returned (.pointer (some ⟨s, (y + 1) * 9, none⟩)) ∧
      (∃ st' l2 r2 F2, st' (x + 1) = st (x + 1) ∧ Up w' b s n Q U y st' V S l2 r2 (.node l (x + 1) false r :: F2)) ∧ Turns (· = s) w w' := by
  obtain ⟨h0, h1, h2, h3, h4, h5⟩ := h
  have hy1 : y + 1 ∉ (T.node l (x + 1) false r).ids := fun e => hxy ((Up.mem ⟨h0, h1, h2, h3, h4, h5⟩).2 e)
  obtain ⟨t, ht, hyt⟩ := mem_allIds.1 ((h2.1.all (y + 1)).2 ⟨by omega, by omega⟩)
  rcases List.mem_cons.1 ht with rfl | ht
  · exact (hy1 hyt).elim
  obtain ⟨A, B, rfl⟩ := List.append_of_mem ht
  have p : (T.node l (x + 1) false r :: (A ++ t :: B)).Perm (t :: (T.node l (x + 1) false r :: (A ++ B))) := (List.perm_middle.cons _).trans (List.Perm.swap _ _ _)
  have hS : Sq V st n S (t :: (T.node l (x + 1) false r :: (A ++ B))) := ⟨h2.1.perm p, fun u hu => h2.2 u (p.mem_iff.2 hu)⟩
  obtain ⟨hw, hE⟩ := hS.1.env h3 h0
  have hx1 : x + 1 ∉ t.ids := fun e => by
    have hnd := hS.1.nd
    rw [allIds_cons, allIds_cons] at hnd
    exact (List.nodup_append.1 hnd).2.2 (x + 1) e (x + 1) (by simp [T.ids]) rfl
  refine (lift_ok b s n st (y + 1) (y : Int) V t _ _ w h1 h0 hw hE hyt (by omega)).mono ?_
  rintro e w' ⟨rfl, ⟨st', k1, ⟨l2, r2, k2⟩, k3, k4⟩, hT⟩
  exact ⟨rfl, ⟨st', l2, r2, A ++ B, k3 _ hx1, h0, k1, hS.same k2 k3, h3, h4, h5⟩, hT⟩
/-- whether two nodes are in one sequence -/
def sameB (Q : Nat → List Nat) (x y : Nat) : Bool := decide (y ∈ Q x)
set_option maxRecDepth 100000 in
theorem same_ok (b s n : Nat) (Q : Nat → List Nat) (U : Nat → Int) (x y : Nat) (w : World) (h : SQ w b s n Q U) (hx : x < n) (hy : y < n) :
    Calls Try.prog 19 #[.pointer (some ⟨b, 0, none⟩), .int .i64 (x : Int), .int .i64 (y : Int)] w fun e w' => e = .returned (.bool (sameB Q x y)) ∧ SQ w' b s n Q U ∧ Turns (· = s) w w' := by
  have x0 := hasQ_ok b s n Q U (x : Int) w h
  rw [hasB_nat hx] at x0
  have x1 := hasQ_ok b s n Q U (y : Int) w h
  rw [hasB_nat hy] at x1
  have x2 := liftQ_ok b s n Q U x w h hx
  have hn := h.1
  have hab := h.abs hx
  by_cases hs : y ∈ Q x
  · rw [show sameB Q x y = true from decide_eq_true hs]
    have hxy : x ∈ Q y := by rw [(hab.2.2 y hs).2]; exact hab.1
    have HX := Lib.hid hxy
    clear hs hab hxy
    go_enter Try.func19, Try.ntmps19
    go_wp2_with fail
    refine x0.mono ?_
    rintro e w' ⟨rfl, rfl⟩
    go_wp2_with fail
    refine x1.mono ?_
    rintro e w' ⟨rfl, rfl⟩
    go_wp2_with fail
    refine x2.mono ?_
    rintro e w1 ⟨rfl, ⟨st, V, S, l, r, F, hU⟩, hT⟩
    have hQ := hU.sq
    have x3 := liftQ_ok b s n Q U y w1 hQ hy
    clear x0 x1 x2 hU
    go_wp2_with fail
    refine x3.mono ?_
    rintro e w2 ⟨rfl, ⟨st2, V2, S2, l2, r2, F2, hU2⟩, hT2⟩
    have hT := hT.trans hT2
    have HU := Lib.hid hU2
    by_cases hxy : x = y
    · subst hxy
      clear x3 hT2 hU2
      go_wp2_with fail
      go_ret
      exact ⟨rfl, HU.out.sq, hT⟩
    · have hne : ((x : Int) == (y : Int)) = false := not_eq_nat hxy
      have hne2 : ¬ (x : Int) = (y : Int) := by omega
      have cu : w2.cell? ⟨s, (x + 1) * 9 + 2, none⟩ = some (.int .i64 ((st2 (x + 1)).up : Int)) := hU2.2.1.2.cell (by omega) 2 (by decide)
      have hup : (st2 (x + 1)).up ≠ 0 := by
        have hm := hU2.rep.up_in (x + 1) (hU2.mem.1 HX.out) (by show x + 1 ≠ y + 1; omega)
        exact (hU2.rep.pos _ hm).1
      obtain ⟨u, hu⟩ : ∃ u, (st2 (x + 1)).up = u := ⟨_, rfl⟩
      rw [hu] at cu hup
      have hu1 : ((u : Int) == 0) = false := not_eq_nat hup
      have hu2 : ¬ (u : Int) = 0 := by omega
      have hu3 : ((u : Int) != 0) = true := by simp; omega
      have hxn : (x : Int) < (n : Int) := by omega
      obtain ⟨c, c1, c2, c3⟩ := hU2.2.1.cell1
      clear x3 hT2 hU2 hu
      go_wp2_with fail
      go_ret
      exact ⟨rfl, HU.out.sq, hT⟩
  · rw [show sameB Q x y = false from decide_eq_false hs]
    have hxy : x ≠ y := fun e => hs (e ▸ hab.1)
    have HS := Lib.hid hs
    have hne : ((x : Int) == (y : Int)) = false := not_eq_nat hxy
    have hne2 : ¬ (x : Int) = (y : Int) := by omega
    clear hs hab hxy
    go_enter Try.func19, Try.ntmps19
    go_wp2_with fail
    refine x0.mono ?_
    rintro e w' ⟨rfl, rfl⟩
    go_wp2_with fail
    refine x1.mono ?_
    rintro e w' ⟨rfl, rfl⟩
    go_wp2_with fail
    refine x2.mono ?_
    rintro e w1 ⟨rfl, ⟨st, V, S, l, r, F, hU⟩, hT⟩
    have hr0 : (st (x + 1)).up = 0 := hU.rep.1.2.1
    have x3 := lift_two b s n Q U x y st V S l r F w1 hU hy HS.out
    clear x0 x1 x2 hU
    go_wp2_with fail
    refine x3.mono ?_
    rintro e w2 ⟨rfl, ⟨st2, l2, r2, F2, he, hU2⟩, hT2⟩
    have hT := hT.trans hT2
    have HU := Lib.hid hU2
    have cu : w2.cell? ⟨s, (x + 1) * 9 + 2, none⟩ = some (.int .i64 ((st2 (x + 1)).up : Int)) := hU2.2.1.2.cell (by omega) 2 (by decide)
    rw [he, hr0] at cu
    have hxn : (x : Int) < (n : Int) := by omega
    obtain ⟨c, c1, c2, c3⟩ := hU2.2.1.cell1
    clear x3 hT2 hU2 he hr0
    go_wp2_with fail
    go_ret
    exact ⟨rfl, HU.out.sq, hT⟩
set_option maxRecDepth 100000 in
theorem at_in (b s n : Nat) (Q : Nat → List Nat) (U : Nat → Int) (x k y : Nat) (w : World) (h : SQ w b s n Q U) (hx : x < n) (hy : (Q x)[k]? = some y) :
    Calls Try.prog 25 #[.pointer (some ⟨b, 0, none⟩), .int .i64 (x : Int), .int .i64 (k : Int)] w fun e w' => e = .returned (.tuple #[.int .i64 (y : Int), .bool true]) ∧ SQ w' b s n Q U ∧ Turns (· = s) w w' := by
  have x0 := hasQ_ok b s n Q U (x : Int) w h
  rw [hasB_nat hx] at x0
  have x2 := liftQ_ok b s n Q U x w h hx
  have hn := h.1
  have hkl := (List.getElem?_eq_some_iff.1 hy).1
  have HY := Lib.hid hy
  clear hy
  go_enter Try.func25, Try.ntmps25
  go_wp2_with fail
  refine x0.mono ?_
  rintro e w' ⟨rfl, rfl⟩
  go_wp2_with fail
  refine x2.mono ?_
  rintro e w1 ⟨rfl, ⟨st, V, S, l, r, F, hU⟩, hT⟩
  have c5 : w1.cell? ⟨s, (x + 1) * 9 + 5, none⟩ = some (.int .i64 ((st (x + 1)).size : Int)) := hU.2.1.2.cell (by omega) 5 (by decide)
  rw [hU.size] at c5
  obtain ⟨m, hm⟩ : ∃ m, (Q x).length = m := ⟨_, rfl⟩
  rw [hm] at c5 hkl
  have hkm : (k : Int) < (m : Int) := by omega
  obtain ⟨hw, hE⟩ := hU.2.2.1.1.env hU.2.2.2.1 hn
  have hat := at_ok b s n st (x + 1) k (y + 1) V (.node l (x + 1) false r) _ _ w1 hU.2.1 hn hw hE rfl (by
    show (l.seq ++ (x + 1) :: r.seq)[k]? = _
    rw [← hU.seq, List.getElem?_map, HY.out]
    rfl)
  rw [show ((x + 1 : Nat) : Int) = (x : Int) + 1 by omega, show ((y + 1 : Nat) : Int) = (y : Int) + 1 by omega] at hat
  have hyn : y < n := (h.abs hx).2.2 y (List.mem_of_getElem? HY.out) |>.1
  have HU := Lib.hid hU
  clear hm hU hw hE x0 x2
  go_wp2_with fail
  refine hat.mono ?_
  rintro e w2 ⟨rfl, ⟨st', k1, ⟨l', r', k2⟩, k3, k4⟩, hT2⟩
  have hQ : SQ w2 b s n Q U := ⟨hn, st', V, S, _, k1, HU.out.2.2.1.same k2 k3, HU.out.2.2.2⟩
  have hT := hT.trans hT2
  clear hat k1 k2 k3 k4 hT2
  go_wp2_with fail
  go_ret2
  exact ⟨rfl, hQ, hT⟩
set_option maxRecDepth 100000 in
theorem at_off (b s n : Nat) (Q : Nat → List Nat) (U : Nat → Int) (x : Nat) (K : Int) (w : World) (h : SQ w b s n Q U) (hx : x < n) (hK : K < 0 ∨ ((Q x).length : Int) ≤ K) :
    Calls Try.prog 25 #[.pointer (some ⟨b, 0, none⟩), .int .i64 (x : Int), .int .i64 K] w fun e w' => e = .returned (.tuple #[.int .i64 0, .bool false]) ∧ SQ w' b s n Q U ∧ Turns (· = s) w w' := by
  have x0 := hasQ_ok b s n Q U (x : Int) w h
  rw [hasB_nat hx] at x0
  have x2 := liftQ_ok b s n Q U x w h hx
  have hn := h.1
  by_cases hk : K < 0
  · go_enter Try.func25, Try.ntmps25
    go_wp2_with fail
    refine x0.mono ?_
    rintro e w' ⟨rfl, rfl⟩
    go_wp2_with fail
    go_ret2
    exact ⟨rfl, h, Turns.refl _ _⟩
  · have hk2 : ((Q x).length : Int) ≤ K := by omega
    clear hK
    go_enter Try.func25, Try.ntmps25
    go_wp2_with fail
    refine x0.mono ?_
    rintro e w' ⟨rfl, rfl⟩
    go_wp2_with fail
    refine x2.mono ?_
    rintro e w1 ⟨rfl, ⟨st, V, S, l, r, F, hU⟩, hT⟩
    have c5 : w1.cell? ⟨s, (x + 1) * 9 + 5, none⟩ = some (.int .i64 ((st (x + 1)).size : Int)) := hU.2.1.2.cell (by omega) 5 (by decide)
    rw [hU.size] at c5
    have HU := Lib.hid hU
    clear hU x0 x2
    go_wp2_with fail
    go_ret2
    exact ⟨rfl, HU.out.sq, hT⟩
end Go.Proofs.Ytgichkjomhnehaa
