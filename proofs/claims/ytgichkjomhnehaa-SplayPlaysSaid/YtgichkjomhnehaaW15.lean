/-
  Join.
-/
import Derived.Test.YtgichkjomhnehaaW14
set_option linter.unusedVariables false
set_option linter.unusedSimpArgs false
namespace Go.Proofs.Ytgichkjomhnehaa
open Go.RowKit Go.Shelf

theorem nodup_idx {l : List Nat} (hn : l.Nodup) {i j x : Nat} (hi : l[i]? = some x) (hj : l[j]? = some x) : i = j := by
  obtain ⟨h1, e1⟩ := List.getElem?_eq_some_iff.1 hi
  obtain ⟨h2, e2⟩ := List.getElem?_eq_some_iff.1 hj
  have up := List.pairwise_iff_getElem.1 hn
  rcases Nat.lt_trichotomy i j with hk | hk | hk
  · exact absurd (e1.trans e2.symm) (up i j h1 h2 hk)
  · exact hk
  · exact absurd (e2.trans e1.symm) (up j i h2 h1 hk)
theorem seq_nil_ids {t : T} (h : t.seq = []) : t = .nil := by
  cases t with
  | nil => rfl
  | node l i f r =>
    have := (T.seq_perm (.node l i f r)).length_eq
    rw [h] at this
    simp [T.ids] at this
set_option maxRecDepth 100000 in
set_option maxHeartbeats 1000000 in
theorem join_ok (b s n : Nat) (Q : Nat → List Nat) (U : Nat → Int) (x y : Nat) (w : World) (h : SQ w b s n Q U) (hx : x < n) (hy : y < n) (hxy : y ∉ Q x) :
    Calls Try.prog 20 #[.pointer (some ⟨b, 0, none⟩), .int .i64 (x : Int), .int .i64 (y : Int)] w fun e w' => e = .returned (.int .i64 0) ∧ SQ w' b s n (joinQ Q x y) U ∧ Turns (· = s) w w' := by
  have hn := h.1
  have x0 := chk2_in h (fits_nat hx hn) (fits_nat hy hn) (hasB_nat hx) (hasB_nat hy)
  unfold Chk2 at x0
  have q := below_new1 w (.cells #[.int .i64 (x : Int), .int .i64 (y : Int)] 3)
  have x1 := same_ok b s n Q U x y _ (h.below q) hx hy
  rw [show sameB Q x y = false from decide_eq_false hxy] at x1
  have hT0 := Turns.of_below q (· = s)
  have hyx : x ∉ Q y := fun e => hxy (by rw [((h.abs hy).2.2 x e).2]; exact (h.abs hy).1)
  have HXY := Lib.hid (And.intro hxy hyx)
  clear hxy hyx
  go_enter Try.func20, Try.ntmps20
  go_wp2_with fail
  refine x0.mono ?_
  rintro e w' ⟨rfl, rfl⟩
  clear x0 q
  generalize w.alloc (.cells #[.int .i64 (x : Int), .int .i64 (y : Int)] 3) = W0 at *
  go_wp2_with fail
  refine x1.mono ?_
  rintro e w1 ⟨rfl, hQ, hT⟩
  have hT := hT0.trans hT
  have x2 := liftQ_ok b s n Q U y w1 hQ hy
  clear x1 hT0
  go_wp2_with fail
  refine x2.mono ?_
  rintro e w2 ⟨rfl, ⟨st, V, S, ly, ry, F, hU⟩, hT2⟩
  have hT := hT.trans hT2
  have x3 := lift_two b s n Q U y x st V S ly ry F w2 hU hx HXY.out.2
  have HY := Lib.hid hU.seq
  clear x2 hT2 hU
  go_wp2_with fail
  refine x3.mono ?_
  rintro e w3 ⟨rfl, ⟨st3, l2, r2, F2, _, hU⟩, hT2⟩
  have hT := hT.trans hT2
  have hx1 : x + 1 ≤ n := by omega
  have c5 : w3.cell? ⟨s, (x + 1) * 9 + 5, none⟩ = some (.int .i64 ((st3 (x + 1)).size : Int)) := hU.2.1.2.cell hx1 5 (by decide)
  rw [hU.size] at c5
  have hseq := hU.seq
  have hlen : (Q x).length = (l2.seq ++ (x + 1) :: r2.seq).length := by rw [← hseq, List.length_map]
  have hpos : 0 < (Q x).length := List.length_pos_of_mem (h.abs hx).1
  have hle := hU.len
  obtain ⟨z, hz⟩ : ∃ z, (l2.seq ++ (x + 1) :: r2.seq)[(Q x).length - 1]? = some z := ⟨_, List.getElem?_eq_getElem (by omega)⟩
  obtain ⟨hw, hE⟩ := hU.2.2.1.1.env hU.2.2.2.1 hn
  have x4 := at_ok b s n st3 (x + 1) ((Q x).length - 1) z V (.node l2 (x + 1) false r2) _ _ w3 hU.2.1 hn hw hE rfl hz
  rw [show ((x + 1 : Nat) : Int) = (x : Int) + 1 by omega, show (((Q x).length - 1 : Nat) : Int) = ((Q x).length : Int) - 1 by omega] at x4
  have HU := Lib.hid (And.intro hU (And.intro hseq hz))
  obtain ⟨m, hm⟩ : ∃ m, (Q x).length = m := ⟨_, rfl⟩
  rw [hm] at c5 x4 hpos hle
  have HM := Lib.hid hm
  clear x3 hT2 hU hseq hlen hz hw hE hm
  go_wp2_with fail
  refine x4.mono ?_
  rintro e w4 ⟨rfl, ⟨st4, k1, ⟨l3, r3, k2⟩, k3, k4⟩, hT2⟩
  have hT := hT.trans hT2
  obtain ⟨hU, hseq, hz⟩ := HU.out
  have hsq := hU.2.2.1.same k2 k3
  have hnd : (l2.seq ++ (x + 1) :: r2.seq).Nodup := by
    have e1 := (T.seq_perm (.node l2 (x + 1) false r2))
    exact (nodup_perm e1).2 k4.nd
  have hs3 : l3.seq ++ z :: r3.seq = l2.seq ++ (x + 1) :: r2.seq := k2.seq
  have hr3 : r3 = .nil := by
    refine seq_nil_ids (List.eq_nil_of_length_eq_zero ?_)
    have h1 : (l2.seq ++ (x + 1) :: r2.seq)[l3.seq.length]? = some z := by rw [← hs3, List.getElem?_append_right (Nat.le_refl _), Nat.sub_self]; rfl
    have h2 := nodup_idx hnd h1 hz
    have h3 := congrArg List.length hs3
    have h4 : (Q x).length = (l2.seq ++ (x + 1) :: r2.seq).length := by rw [← hseq, List.length_map]
    simp at h3 h4
    omega
  subst hr3
  obtain ⟨hov, hsq2⟩ := join_plain hU.2.2.2.1 hsq
  have hz1 := root_parts hsq
  have x5 := hang_ok b s n st4 z (y + 1) true w4 k1 hn hz1.2.1 (by omega)
  rw [show sv true = 1 from rfl, show ((y + 1 : Nat) : Int) = (y : Int) + 1 by omega] at x5
  have hzy : z ≠ y + 1 := fun e => by
    have hnd2 := hsq.1.nd
    rw [allIds_cons, allIds_cons] at hnd2
    exact (List.nodup_append.1 hnd2).2.2 z (show z ∈ (T.node l3 z false .nil).ids by simp [T.ids]) (y + 1) (List.mem_append_left _ (show y + 1 ∈ (T.node ly (y + 1) false ry).ids by simp [T.ids])) e
  have hnd3 : ((T.node l3 z false .nil).ids ++ (T.node ly (y + 1) false ry).ids).Nodup ∧ ∀ j ∈ (T.node l3 z false .nil).ids ++ (T.node ly (y + 1) false ry).ids, 1 ≤ j ∧ j ≤ n := by
    have hnd2 := hsq.1.nd
    have hall := hsq.1.all
    rw [allIds_cons, allIds_cons, ← List.append_assoc] at hnd2 hall
    exact ⟨(List.nodup_append.1 hnd2).1, fun j hj => (hall j).1 (List.mem_append_left _ hj)⟩
  obtain ⟨v1, a0, a1⟩ := over_kids hU.2.2.2.1 hov hnd3.1 hnd3.2 hn ((hang_keep (Ne.symm hz1.1) (by omega)).trans (hsq.1.zero 0 (Or.inl rfl)))
  have x6 : ∀ W, SP W b s n (hangF st4 z true (y + 1)) → _ := fun W hW => refresh_ok b s n _ z W hW hn hz1.2.1 v1 a0 a1
  have X6 := Lib.hid x6
  have HS := Lib.hid (And.intro hU (And.intro hseq (And.intro hs3 hsq2)))
  clear hov hsq2 hnd3 v1 a0 a1 x6 hz1 hsq hnd hs3 k1 k2 k3 k4 hU hseq hz x4 hT2 HU c5 hzy
  go_wp2_with fail
  refine x5.mono ?_
  rintro e w5 ⟨rfl, S5, T5⟩
  have hT := hT.trans T5
  have x6 := X6.out w5 S5
  clear x5 T5 S5
  go_wp2_with fail
  refine x6.mono ?_
  rintro e w6 ⟨rfl, S6, T6⟩
  have hT := hT.trans T6
  have HS6 := Lib.hid S6
  clear x6 T6 S6
  go_wp2_with fail
  go_ret
  obtain ⟨hU, hseq, hs3, hsq2⟩ := HS.out
  refine ⟨rfl, ⟨hn, _, _, _, _, HS6.out, hsq2, hU.2.2.2.1, fun u hu => ?_, hU.2.2.2.2.2⟩, hT⟩
  have m1 : u + 1 ∈ (T.node l3 z false .nil).ids ↔ u ∈ Q x := by
    have := mem_succ_map (y := u) (l := Q x)
    rw [hseq, ← hs3] at this
    rw [← (T.seq_perm (.node l3 z false .nil)).mem_iff]
    exact this
  have m2 : u + 1 ∈ (T.node ly (y + 1) false ry).ids ↔ u ∈ Q y := by
    have := mem_succ_map (y := u) (l := Q y)
    rw [HY.out] at this
    rw [← (T.seq_perm (.node ly (y + 1) false ry)).mem_iff]
    exact this
  unfold joinQ
  by_cases e : u ∈ Q x ∨ u ∈ Q y
  · rw [if_pos e, if_pos (e.imp m1.2 m2.2), List.map_append, hseq, ← hs3, HY.out]
    rfl
  · rw [if_neg e, if_neg (fun k => e (k.imp m1.1 m2.1))]
    exact hU.2.2.2.2.1 u hu
set_option maxRecDepth 100000 in
theorem join_have (b s n : Nat) (Q : Nat → List Nat) (U : Nat → Int) (x y : Nat) (w : World) (h : SQ w b s n Q U) (hx : x < n) (hy : y < n) (hxy : y ∈ Q x) :
    Calls Try.prog 20 #[.pointer (some ⟨b, 0, none⟩), .int .i64 (x : Int), .int .i64 (y : Int)] w fun e w' => e = .returned (.int .i64 6) ∧ SQ w' b s n Q U ∧ Turns (· = s) w w' := by
  have hn := h.1
  have x0 := chk2_in h (fits_nat hx hn) (fits_nat hy hn) (hasB_nat hx) (hasB_nat hy)
  unfold Chk2 at x0
  have q := below_new1 w (.cells #[.int .i64 (x : Int), .int .i64 (y : Int)] 3)
  have x1 := same_ok b s n Q U x y _ (h.below q) hx hy
  rw [show sameB Q x y = true from decide_eq_true hxy] at x1
  have hT0 := Turns.of_below q (· = s)
  go_enter Try.func20, Try.ntmps20
  go_wp2_with fail
  refine x0.mono ?_
  rintro e w' ⟨rfl, rfl⟩
  clear x0 q
  generalize w.alloc (.cells #[.int .i64 (x : Int), .int .i64 (y : Int)] 3) = W0 at *
  go_wp2_with fail
  refine x1.mono ?_
  rintro e w1 ⟨rfl, hQ, hT⟩
  have hT := hT0.trans hT
  clear x1
  go_wp2_with fail
  go_ret
  exact ⟨rfl, hQ, hT⟩
end Go.Proofs.Ytgichkjomhnehaa
