/-
  The document's sequences: Join.
-/
import Derived.Test.YtgichkjomhnehaaT10
set_option linter.unusedVariables false
set_option linter.unusedSectionVars false
set_option linter.unusedSimpArgs false
namespace Go.Proofs.Ytgichkjomhnehaa
open Go.RowKit Go.Shelf

theorem RowL.vals {w : World} {B : Nat} {v : Value} {l : List Nat} (h : RowL w B v l) : w.ownsRow B 3 1 v l.length (vals (fun i => ((l.getD i 0 : Nat) : Int)) l.length) := by
  unfold RowL at h
  rwa [nums_vals] at h
theorem RL.setLP {P : Value → Prop} {w : World} {r c n B : Nat} {LL LL' : List (List Nat)} {U : Nat → Int} {vo : Value} {ss : List Value} (h : RL w r c n LL U) (hC : Cls w B c vo LL' ss) (hB : c ≤ B) (hP : ∀ v ∈ ss, P v) : RLP P (w.setCell ⟨r, 1, none⟩ vo) r c n LL' U := by
  have h1 := (h.setL hC hB).1
  refine ⟨h1, ?_⟩
  obtain ⟨h0, hn, hf, vL, s0, vV, k1, k2, k3⟩ := h
  have gs := grownBy_set w ⟨r, 1, none⟩ vo
  have key : ∀ {t : TypeId} {B' s' n' : Nat} {v : Value} {xs : List Value}, w.ownsRow B' t s' v n' xs → t ≠ 86 → v.ownBlock = none ∨ v.ownBlock ≠ some r := fun {t B' s' n' v xs} hr ht => by
    rcases hr.2 with ⟨e, _⟩ | ⟨g, cap, cur, e, _, hh, _⟩
    · left; rw [e]; rfl
    · right
      rw [e]
      intro e2
      have e2 : g = r := Option.some.inj e2
      exact k1.ne_ (t' := t) (cs' := cur) (g' := g) hh (fun e3 => ht e3.symm) e2.symm
  have hC2 := (hC.mono hB).kept gs (key hC.1 (by decide)) (fun v l hr => key hr (by decide))
  obtain ⟨A, cc, rfl, e1, e2, _⟩ := owns_slice hC.1
  have k2 : Blk (w.setCell ⟨r, 1, none⟩ (.slice A LL'.length cc)) r 86 #[.bool true, .slice A LL'.length cc, vV] := by
    have := k1.set_ 1 (.slice A LL'.length cc)
    simpa using this
  exact ⟨A, cc, ss, k2.cell 1, e1, e2, hC2, hP⟩
/-- the lists abide the turn of another row of numbers -/
theorem RLP.turns3 {D : Nat} {w w' : World} {r c n m : Nat} {LL : List (List Nat)} {U : Nat → Int} {v1 : Value} {xs : List Value} (h : RLP (fun v => ∀ k, v.ownBlock = some k → k < D) w r c n LL U) (hT : Turns (fun k => some k = v1.ownBlock) w w') (h1 : w.ownsRow D 3 1 v1 m xs) : RL w' r c n LL U := by
  obtain ⟨⟨h0, hn, hf, vL, s0, vV, k1, k2, k3⟩, A, cc, ss, c1, e1, e2, hC, hP⟩ := h
  have keep : ∀ {B s n : Nat} {t : TypeId} {v : Value} {xs : List Value}, w.ownsRow B t s v n xs → (v.ownBlock = none ∨ v.ownBlock ≠ v1.ownBlock) → w'.ownsRow B t s v n xs := fun {B s n t v xs} hr hne => by
    refine ⟨hr.1, hr.2.imp id ?_⟩
    rintro ⟨g, cap, cur, hv, hg, hh, r⟩
    refine ⟨g, cap, cur, hv, hg, (hT.block g (Blk.lt (w := w) (t := t) (cs := cur) hh) (fun e => ?_)).trans hh, r⟩
    rcases hne with hne | hne
    · rw [hv] at hne; cases hne
    · exact hne (by rw [hv]; exact e)
  have e := k1.cell 1
  rw [c1] at e
  have e : vL = .slice A LL.length cc := by simpa using e.symm
  subst e
  refine ⟨h0, hn, hf, _, ss, vV, k1.turns hT (fun e => ?_), ⟨keep hC.1 (own_apart hC.1 h1 (by decide)), hC.2.1, fun k v l a b => keep (hC.2.2 k v l a b) ?_⟩, keep k3 (own_apart k3 h1 (by decide))⟩
  · rcases h1.2 with ⟨e3, _⟩ | ⟨g, cap, cur, e3, _, hh, _⟩
    · rw [e3] at e; cases e
    · rw [e3] at e
      have e : r = g := Option.some.inj e
      exact k1.ne_ (t' := 3) (cs' := cur) (g' := g) hh (by decide) e
  · cases hv : v.ownBlock with
    | none => exact Or.inl rfl
    | some b0 =>
      right
      intro e
      have g1 := hP v (List.mem_of_getElem? a) b0 hv
      have g2 := (World.ownsRow.lt h1 b0 e.symm).1
      omega
set_option maxRecDepth 100000 in
theorem rjoin_have (r c n : Nat) (LL : List (List Nat)) (Q : Nat → List Nat) (U : Nat → Int) (x y : Nat) (w : World) (h : RL w r c n LL U) (hQ : LQ LL n Q) (hx : x < n) (hy : y < n) (hxy : y ∈ Q x) :
    Calls Try.prog 33 #[.pointer (some ⟨r, 0, none⟩), .int .i64 (x : Int), .int .i64 (y : Int)] w fun e w' => e = .returned (.int .i64 6) ∧ w = w' := by
  have xc := rchk_in h hx
  have xd := rchk_in h hy
  unfold RChk at xc xd
  have xs := rsame_ok r c n LL Q U x w h hQ hx y hy
  rw [show sameB Q x y = true from decide_eq_true hxy] at xs
  clear hxy hQ h
  go_enter Try.func33, Try.ntmps33
  go_wp2_with fail
  refine xc.mono ?_
  rintro e w' ⟨rfl, rfl⟩
  go_wp2_with fail
  refine xd.mono ?_
  rintro e w' ⟨rfl, rfl⟩
  go_wp2_with fail
  refine xs.mono ?_
  rintro e w' ⟨rfl, rfl⟩
  go_wp2_with fail
  go_ret
  exact ⟨rfl, rfl⟩
set_option maxRecDepth 100000 in
set_option maxHeartbeats 2000000 in
theorem rjoin_ok (r c n : Nat) (LL : List (List Nat)) (Q : Nat → List Nat) (U : Nat → Int) (x y : Nat) (w : World) (h : RL w r c n LL U) (hQ : LQ LL n Q) (hx : x < n) (hy : y < n) (hxy : y ∉ Q x) :
    Calls Try.prog 33 #[.pointer (some ⟨r, 0, none⟩), .int .i64 (x : Int), .int .i64 (y : Int)] w fun e w' => ∃ LL', e = .returned (.int .i64 0) ∧ LQ LL' n (joinQ Q x y) ∧ RL w' r c n LL' U ∧ Turns (fun k => c ≤ k) w w' ∧ K55 w w' := by
  have xc := rchk_in h hx
  have xd := rchk_in h hy
  unfold RChk at xc xd
  have xs := rsame_ok r c n LL Q U x w h hQ hx y hy
  rw [show sameB Q x y = false from decide_eq_false hxy] at xs
  have x1 := rlist_ok r c n LL Q U x w h hQ hx
  have hn := h.2.1
  have hcr := h.1
  have hcw : c ≤ w.heap.size := by have := h.lt; omega
  have HQ := Lib.hid hQ
  have HXY := Lib.hid hxy
  have hLL := hQ.len
  have HSM := Lib.hid (show ∀ l ∈ LL, l.length ≤ 1000 ∧ ∀ x ∈ l, x < n from fun l hl => by have := hQ.small (by omega) hl; exact ⟨by omega, this.2⟩)
  have HLX := Lib.hid (And.intro (hQ.size hx) (hQ.size hy))
  clear hQ hxy
  go_enter Try.func33, Try.ntmps33
  go_wp2_with fail
  refine xc.mono ?_
  rintro e w' ⟨rfl, rfl⟩
  go_wp2_with fail
  refine xd.mono ?_
  rintro e w' ⟨rfl, rfl⟩
  go_wp2_with fail
  refine xs.mono ?_
  rintro e w' ⟨rfl, rfl⟩
  clear xc xd xs
  go_wp2_with fail
  refine x1.mono ?_
  rintro e w1 ⟨v1, rfl, R1, q1⟩
  have h1 := h.below q1
  have x2 := rlist_ok r c n LL Q U y w1 h1 HQ.out hy
  clear x1
  go_wp2_with fail
  refine x2.mono ?_
  rintro e w2 ⟨v2, rfl, R2, q2⟩
  have h2 := h1.below q2
  have R1 := R1.below q2
  have R2 : RowL w2 w.heap.size v2 (Q y) := owns_mono R2 q1.size
  have q := below_end q1 q1.size q2
  have x3 := rfindQ r c n LL Q U x w2 h2 HQ.out hx
  obtain ⟨A1, d1, rfl, _⟩ := owns_slice R1
  obtain ⟨A2, d2, rfl, _⟩ := owns_slice R2
  clear x2 q1 h1
  go_wp2_with fail
  refine x3.mono ?_
  rintro e w' ⟨i, k, rfl, hi, rfl⟩
  have HI := Lib.hid hi
  have hil : i < LL.length := (List.getElem?_eq_some_iff.1 (hi.list HQ.out).1).1
  have x4 := rwithoutP_ok (fun v => ∀ k, v.ownBlock = some k → k < w.heap.size) r c n LL U i w2 ((h.any).below q) hil (by omega) (fun l hl => by have := (HSM.out l hl).1; omega) (by have := q.size; omega)
  clear x3 hi
  go_wp2_with fail
  refine x4.mono ?_
  rintro e w3 ⟨vo, s3, rfl, C3, P3, q3⟩
  have h3 := h2.below q3
  have R1 := R1.below q3
  have R2 := R2.below q3
  have hz2 := q.size
  have q := below_end q hz2 q3
  have hz3 := q.size
  obtain ⟨AL, dL, rfl, _⟩ := owns_slice C3.1
  obtain ⟨h4, T4, K4⟩ := h3.setL C3 (by omega)
  have KW := Lib.hid ((K55.of_below q).trans K4)
  have h4P := Lib.hid (h3.setLP C3 (by omega) P3)
  have f3 := frozen_of h3 1
  obtain ⟨_, _, c3, _⟩ := h3.cellL
  have T := (Turns.of_below q (fun k => c ≤ k)).trans T4
  have hrw := h.lt
  have TT : Turns (· = r) w3 (w3.setCell ⟨r, 1, none⟩ (.slice AL (LL.eraseIdx i).length dL)) := Turns.setCell (S := (· = r)) (Turns.refl _ w3) (p := ⟨r, 1, none⟩) (.inr rfl) _
  have R1 : RowL _ w.heap.size _ _ := owns_turns R1 TT (fun k e => by omega)
  have R2 : RowL _ w.heap.size _ _ := owns_turns R2 TT (fun k e => by omega)
  clear h3 C3 q3 T4 TT x4 K4
  go_upto_region 12 with fail
  generalize w3.setCell ⟨r, 1, none⟩ (.slice AL (LL.eraseIdx i).length dL) = W4 at *
  obtain ⟨b0, hb0⟩ := (HQ.out.at_ hy)
  obtain ⟨kb, hb0⟩ := hb0
  have hbe := hb0.behind HQ.out HI.out HXY.out
  have hel : (LL.eraseIdx i).length ≤ 1000 := by
    have := (List.eraseIdx_sublist LL i).length_le
    omega
  have hsm : ∀ l ∈ LL.eraseIdx i, l.length ≤ 100000 := fun l hl => by have := (HSM.out l (mem_erase hl)).1; omega
  have x5 := rfind_ok r c n (LL.eraseIdx i) U y W4 h4 (by obtain ⟨j', e⟩ := hbe; exact ⟨j', kb, e⟩) (by omega) hsm
  have HSE := Lib.hid hsm
  clear hsm hb0 hbe c3 f3
  go_wp2_with fail
  refine x5.mono ?_
  rintro e w' ⟨j, k5, rfl, hj, rfl⟩
  have HJ := Lib.hid (HQ.out.join HI.out hj HXY.out)
  have hjl : j < (LL.eraseIdx i).length := by obtain ⟨l, e, _⟩ := hj; exact (List.getElem?_eq_some_iff.1 e).1
  have hwz := T.size
  have x6 := rwithoutP_ok _ r c n (LL.eraseIdx i) U j W4 h4P.out hjl hel HSE.out (by omega)
  clear x5 hj
  go_wp2_with fail
  refine x6.mono ?_
  rintro e w5 ⟨vo, s5, rfl, C5, P5, q5⟩
  have HR14 := Lib.hid R1
  have R1 := R1.below q5
  have R2 := R2.below q5
  have hz5 := q5.size
  obtain ⟨A5, d5, rfl, _⟩ := owns_slice C5.1
  obtain ⟨A2', d2', he, ar2, an2⟩ := R2.argN (fun z hz => by
    have := ((HQ.out.abs y hy).2.2 z hz).1
    omega)
  cases he
  have R1v := R1.vals
  have HFIN := Lib.hid (fun (w1 : World) (v' : Value) => rowL_cat (w := w1) (v := v') (B := w.heap.size) (Q x) (Q y))
  have hlx := HLX.out.1
  have hly := HLX.out.2
  have HB1 := Lib.hid R1.base
  have HB5 := Lib.hid C5.base
  have hB5 : w.heap.size ≤ w5.heap.size := by omega
  have hele : ((LL.eraseIdx i).eraseIdx j).length ≤ 100000 := by
    have := (List.eraseIdx_sublist (LL.eraseIdx i) j).length_le
    omega
  have HELE := Lib.hid hele
  have FIN := Lib.hid (show ∀ (v' : Value) (w6 : World), RowL w6 w.heap.size v' (Q x ++ Q y) → w5.grownBy w6 (Value.slice A1 (Q x).length d1).ownBlock → ∃ A6 n6 d6, v' = .slice A6 n6 d6 ∧ RowL (w6.alloc (.cells #[.slice A6 n6 d6] 25)) c (.slice A6 n6 d6) (Q x ++ Q y) ∧ Cls (w6.alloc (.cells #[.slice A6 n6 d6] 25)) W4.heap.size c (.slice A5 ((LL.eraseIdx i).eraseIdx j).length d5) ((LL.eraseIdx i).eraseIdx j) s5 ∧ (w6.alloc (.cells #[.slice A6 n6 d6] 25)).cell? ⟨w6.heap.size, 0, none⟩ = some (.slice A6 n6 d6) ∧ W4.heap.size ≤ (w6.alloc (.cells #[.slice A6 n6 d6] 25)).heap.size ∧
      ∀ (v8 : Value) (w8 : World), Cls w8 W4.heap.size c v8 ((LL.eraseIdx i).eraseIdx j ++ [Q x ++ Q y]) (s5 ++ [.slice A6 n6 d6]) → (w6.alloc (.cells #[.slice A6 n6 d6] 25)).grownBy w8 (Value.slice A5 ((LL.eraseIdx i).eraseIdx j).length d5).ownBlock → ∃ A9 n9 d9, v8 = .slice A9 n9 d9 ∧ w8.frozen? ⟨r, 1, none⟩ = false ∧ (∃ old, w8.cell? ⟨r, 1, none⟩ = some old) ∧ RL (w8.setCell ⟨r, 1, none⟩ (.slice A9 n9 d9)) r c n ((LL.eraseIdx i).eraseIdx j ++ [Q x ++ Q y]) U ∧ Turns (fun k => c ≤ k) w (w8.setCell ⟨r, 1, none⟩ (.slice A9 n9 d9)) ∧ K55 w (w8.setCell ⟨r, 1, none⟩ (.slice A9 n9 d9)) from fun v' w6 t1 t2 => by
    obtain ⟨A6, d6, rfl, _⟩ := owns_slice t1
    have q6 : Below w.heap.size w5 w6 := (Below.refl _ _).grown t2 hB5 HB1.out
    have C6 : Cls w6 W4.heap.size c _ _ s5 := ⟨World.ownsRow.kept C5.1 t2 (own_apart C5.1 R1 (by decide)), C5.2.1, fun k v l e1 e2 => World.ownsRow.kept (C5.2.2 k v l e1 e2) t2 (by
      cases hv : v.ownBlock with
      | none => exact Or.inl rfl
      | some b0 =>
        right
        intro e
        have g1 := P5 v (List.mem_of_getElem? e1) b0 hv
        have g2 := HB1.out b0 e.symm
        omega)⟩
    have b6 := below_new1 w6 (.cells #[.slice A6 (Q x ++ Q y).length d6] 25)
    have hz6 := t2.size
    refine ⟨A6, _, d6, rfl, owns_below (owns_mono t1 hcw) b6, C6.below b6, (Blk.new w6 25 #[.slice A6 (Q x ++ Q y).length d6]).cell 0, by simp; omega, fun v8 w8 t3 t4 => ?_⟩
    obtain ⟨A9, d9, rfl, _⟩ := owns_slice t3.1
    have hz8 := t4.size
    have TW : Turns (fun k => some k = (Value.slice A1 (Q x).length d1).ownBlock) W4 w8 := by
      refine ⟨t4.os.trans (t2.os.trans q5.os), t4.tape.trans (t2.tape.trans q5.tape), t4.output.trans (t2.output.trans q5.output), by simp at hz8; omega, fun k hk hn => ?_⟩
      refine (t4.block k (by simp; omega) (fun e => by have := HB5.out k e.symm; omega)).trans ?_
      refine (Below.heap_alloc w6 _ k (by omega)).trans ?_
      exact (t2.block k (by omega) hn).trans (q5.block k hk)
    have h8 := h4P.out.turns3 TW HR14.out
    obtain ⟨g3, g4, g7⟩ := h8.setL t3 (by omega)
    have K8 : K55 W4 w8 := fun bx cs hb => (TW.block bx (Blk.lt hb) (fun e => by
      rcases HR14.out.2 with ⟨e3, _⟩ | ⟨g', cap, cur, e3, _, hh, _⟩
      · rw [e3] at e; cases e
      · rw [e3] at e
        have e : bx = g' := Option.some.inj e
        exact Blk.ne_ hb (t' := 3) (cs' := cur) (g' := g') hh (by decide) e)).trans hb
    obtain ⟨_, _, g5, _⟩ := h8.cellL
    exact ⟨A9, _, d9, rfl, frozen_of h8 1, ⟨_, g5⟩, g3, (T.trans (TW.mono (fun k _ e => by have := HB1.out k e.symm; omega))).trans g4, (KW.out.trans K8).trans g7⟩)
  obtain ⟨qx, hqx⟩ : ∃ qx, (Q x).length = qx := ⟨_, rfl⟩
  obtain ⟨qy, hqy⟩ : ∃ qy, (Q y).length = qy := ⟨_, rfl⟩
  obtain ⟨me, hme⟩ : ∃ me, ((LL.eraseIdx i).eraseIdx j).length = me := ⟨_, rfl⟩
  rw [hqx] at R1v FIN hlx HFIN ⊢
  rw [hqy] at ar2 an2 hly HFIN ⊢
  rw [hme] at FIN ⊢
  clear R1 R2 x6 h4 hele hme hqx hqy
  go_wp2_with (first
    | (at_builtin; refine wpList_append_ints rfl _ _ rfl w.heap.size (.slice A1 qx d1) qx _ rfl R1v A2 qy d2 _ rfl ar2 an2 (by omega) hB5 ?_; intro v' w6 t1 t2; obtain ⟨A6, n6, d6, rfl, g1, g2, g3, g4, g5⟩ := FIN.out v' w6 (HFIN.out _ _ t1) t2; have G5 := Lib.hid g5; clear t1 t2 g5)
    | (at_builtin; refine wpList_append_row rfl _ _ rfl W4.heap.size c (.slice A5 me d5) (.slice A6 n6 d6) _ s5 _ w6.heap.size rfl g2 rfl g3 g1 HELE.out g4 ?_; intro v8 w8 t3 t4; obtain ⟨A9, n9, d9, rfl, f1, ⟨old, f2⟩, f3, f4⟩ := G5.out v8 w8 t3 t4; clear t3 t4))
  go_ret
  exact ⟨_, rfl, HJ.out, f3, f4⟩
end Go.Proofs.Ytgichkjomhnehaa
