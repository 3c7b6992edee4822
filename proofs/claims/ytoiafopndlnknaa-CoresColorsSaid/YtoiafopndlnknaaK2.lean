/-
  The document's Order, Numbers, Degeneracy.
-/
import Derived.Test.YtoiafopndlnknaaK1
set_option linter.unusedVariables false
set_option linter.unusedSimpArgs false
namespace Go.Proofs.Ytoiafopndlnknaa
open Go.RowKit Go.Shelf

/-- before an append of one number in a loop -/
theorem app_prep {w1 wr : World} {v : Value} {l : List Nat} (i : Nat) (hr : RowL wr w1.heap.size v l) (q : Below w1.heap.size w1 wr) :
    RowL (wr.alloc (.cells #[.int .i64 (i : Int)] 3)) w1.heap.size v l ∧ (wr.alloc (.cells #[.int .i64 (i : Int)] 3)).cell? ⟨wr.heap.size, 0, none⟩ = some (.int .i64 (i : Int)) ∧ w1.heap.size ≤ (wr.alloc (.cells #[.int .i64 (i : Int)] 3)).heap.size ∧
      ∀ (v' : Value) (w3 : World), RowL w3 w1.heap.size v' (l ++ [i]) → (wr.alloc (.cells #[.int .i64 (i : Int)] 3)).grownBy w3 v.ownBlock → ∃ A2 c2, v' = .slice A2 (l.length + 1) c2 ∧ RowL w3 w1.heap.size (.slice A2 (l.length + 1) c2) (l ++ [i]) ∧ Below w1.heap.size w1 w3 := by
  have hz : w1.heap.size ≤ (wr.alloc (.cells #[.int .i64 (i : Int)] 3)).heap.size := by have := q.size; simp; omega
  refine ⟨hr.below (below_new1 wr _), (Blk.new wr 3 #[.int .i64 (i : Int)]).cell 0, hz, fun v' w3 t1 t2 => ?_⟩
  obtain ⟨A2, c2, rfl⟩ := t1.slice
  rw [List.length_append, List.length_singleton] at t1 ⊢
  exact ⟨A2, c2, rfl, t1, (q.alloc q.size _).grown t2 hz hr.base⟩
theorem take_getD {α : Type} (l : List α) (d : α) {i : Nat} (h : i < l.length) : l.take (i + 1) = l.take i ++ [l.getD i d] := by
  rw [List.take_succ_eq_append_getElem h, List.getD_eq_getElem?_getD, List.getElem?_eq_getElem h]
  rfl
set_option maxRecDepth 100000 in
set_option maxHeartbeats 2000000 in
theorem rorder_ok {w : World} {A : Option Addr} {c n : Nat} {E : Es} (ha : EA w A c E) (hF : Fine n E) :
    Calls Try.prog 27 #[.int .i64 (n : Int), .slice A E.length c] w fun e w' => ∃ v, e = .returned v ∧ RowL w' w.heap.size v (ord E n) ∧ Below w.heap.size w w' := by
  have hn := hF.1
  have xp := rpeel_ok ha hF
  obtain ⟨p, hp⟩ : ∃ p, peel E n = p := ⟨_, rfl⟩
  have hpl : p.length ≤ 20000 := by rw [← hp]; have := (peeled E n n (Nat.le_refl _)).len; unfold peel; omega
  have HO := Lib.hid (show ord E n = p.map (·.1) from by unfold ord; rw [hp])
  rw [hp] at xp
  clear hp ha
  go_enter Try.func27, Try.ntmps27
  go_wp2_with fail
  refine xp.mono ?_
  rintro e w1 ⟨vp, rfl, rp, q1⟩
  clear xp
  obtain ⟨Ap, cp, rfl⟩ := rp.slice
  obtain ⟨m, hm⟩ : ∃ m, p.length = m := ⟨_, rfl⟩
  have HM := Lib.hid hm
  rw [hm] at hpl rp
  rw [hm]
  clear hm
  go_wp2_with fail
  go_loopw [5, 7] (fun v5 v7 wr => ∃ (i : Nat) (l : List Nat) (A2 : Option Addr) (c2 : Nat), v5 = .slice A2 i c2 ∧ v7 = .int .i64 i ∧ i ≤ m ∧ Hid (l = (p.take i).map (·.1) ∧ l.length = i) ∧ RowL wr w1.heap.size (.slice A2 i c2) l ∧ Below w1.heap.size w1 wr) (fun _ v _ => 30000 - (intOf v).toNat)
  case atStart => exact ⟨0, [], none, 0, rfl, rfl, Nat.zero_le _, Lib.hid ⟨rfl, rfl⟩, RowL.nil _ _, Below.refl _ _⟩
  case round =>
    obtain ⟨i, l, A2, c2, rfl, rfl, hi, HL, hr, q⟩ := hrel
    by_cases hlt : i < m
    · have him : (i : Int) < (m : Int) := by omega
      obtain ⟨g, cc, hv, _, _, hlc, hc63, hcell⟩ := (rp.below q).cells (by rw [HM.out]; omega)
      rw [HM.out] at hv hlc hcell
      obtain ⟨d0, d1⟩ := hcell i hlt
      cases hv
      obtain ⟨x, hx⟩ : ∃ x, (p.getD i (0, 0)).1 = x := ⟨_, rfl⟩
      rw [hx] at d0
      have HT := Lib.hid (show (p.take (i + 1)).map (·.1) = l ++ [x] from by rw [take_getD p (0, 0) (by rw [HM.out]; exact hlt), List.map_append, ← HL.out.1, ← hx]; rfl)
      obtain ⟨t1, t2, t3, FIN⟩ := app_prep x hr q
      have hll := HL.out.2
      have FIN := Lib.hid FIN
      have HLL := Lib.hid hll
      have hl2 : l.length ≤ 100000 := by omega
      clear hcell hx hr q hll d1
      go_wp2_with (at_builtin; refine wpList_append_num rfl _ _ rfl w1.heap.size (.slice A2 i c2) l x wr.heap.size rfl t1 rfl t2 hl2 t3 ?_; intro v' w3 g1 g2; obtain ⟨A3, c3, rfl, g3, g4⟩ := FIN.out v' w3 g1 g2; clear g1 g2)
      rw [HLL.out] at g3 ⊢
      go_roundw
      case rel => exact ⟨i + 1, l ++ [x], A3, c3, rfl, by simp, by omega, Lib.hid ⟨HT.out.symm, by rw [List.length_append, HLL.out]; rfl⟩, g3, g4⟩
      case measure => simp [intOf]; omega
    · have eim : m = i := by omega
      subst eim
      have him : ¬ (m : Int) < (m : Int) := by omega
      have HF2 := Lib.hid (show ord E n = l from by rw [HO.out, HL.out.1, List.take_of_length_le (by rw [HM.out]; exact Nat.le_refl _)])
      have q2 := below_end q1 q1.size q
      have hs1 := q1.size
      go_wp2_with fail
      go_ret
      exact ⟨_, rfl, by rw [HF2.out]; exact hr.mono hs1, q2⟩
theorem numS_take (p : List (Nat × Nat)) {i : Nat} (h : i < p.length) : numS (p.take (i + 1)) = accN (numS (p.take i)) (p.getD i (0, 0)) := by
  rw [take_getD p (0, 0) h, numS_snoc]
set_option maxRecDepth 100000 in
set_option maxHeartbeats 2000000 in
theorem rnumbers_ok {w : World} {A : Option Addr} {c n : Nat} {E : Es} (ha : EA w A c E) (hF : Fine n E) :
    Calls Try.prog 28 #[.int .i64 (n : Int), .slice A E.length c] w fun e w' => ∃ gn, e = .returned (.slice (some ⟨gn, 0, none⟩) n n) ∧ w.heap.size ≤ gn ∧ RowF .i64 w' gn 3 n (fun u => (num E n u : Nat)) ∧ Below w.heap.size w w' := by
  have hn := hF.1
  have mk1 := run_make31 n (by omega)
  have b0 := below_new1 w (.cells (zerosK .i64 n) 3)
  have r0 := RowF.new .i64 w 3 n
  have xp := rpeel_ok (ha.below b0) hF
  obtain ⟨p, hp⟩ : ∃ p, peel E n = p := ⟨_, rfl⟩
  have hpl : p.length ≤ 20000 := by rw [← hp]; have := (peeled E n n (Nat.le_refl _)).len; unfold peel; omega
  have HPN := Lib.hid (show ∀ i, i < p.length → (p.getD i (0, 0)).1 < n from fun i hi => by
    refine (peeled E n n (Nat.le_refl _)).lt _ ?_
    show _ ∈ peel E n
    rw [hp, List.getD_eq_getElem?_getD, List.getElem?_eq_getElem hi]
    exact List.getElem_mem hi)
  have HO := Lib.hid (show num E n = (numS p).2 from by unfold num; rw [hp])
  rw [hp] at xp
  clear hp ha
  go_enter Try.func28, Try.ntmps28
  go_upto_region 3 with fail
  clear mk1
  have hsz : (w.alloc (.cells (zerosK .i64 n) 3)).heap.size = w.heap.size + 1 := by simp
  generalize w.alloc (.cells (zerosK .i64 n) 3) = W1 at *
  obtain ⟨gn, hgn⟩ : ∃ x, w.heap.size = x := ⟨_, rfl⟩
  have hg0 : w.heap.size ≤ gn := by omega
  have hg1 : gn < W1.heap.size := by omega
  rw [hgn] at r0
  rw [hgn]
  clear hgn hsz
  go_wp2_with fail
  refine xp.mono ?_
  rintro e w1 ⟨vp, rfl, rp, q1⟩
  clear xp
  have r0 := r0.below' q1
  have hbs := rp.base
  have q1 := below_end b0 b0.size q1
  obtain ⟨Ap, cp, rfl⟩ := rp.slice
  obtain ⟨m, hm⟩ : ∃ m, p.length = m := ⟨_, rfl⟩
  have HM := Lib.hid hm
  rw [hm] at hpl rp hbs HPN
  rw [hm]
  clear hm b0
  go_wp2_with fail
  go_loopw [6, 8] (fun v6 v8 wr => ∃ i : Nat, v6 = .int .i64 ((numS (p.take i)).1 : Nat) ∧ v8 = .int .i64 i ∧ i ≤ m ∧ RowF .i64 wr gn 3 n (fun u => ((numS (p.take i)).2 u : Nat)) ∧ RowP wr W1.heap.size (.slice Ap m cp) p ∧ Below w.heap.size w wr) (fun _ v _ => 30000 - (intOf v).toNat)
  case atStart => exact ⟨0, rfl, rfl, Nat.zero_le _, r0.congr (fun _ _ => rfl), rp, q1⟩
  case round =>
    clear r0 rp q1
    obtain ⟨i, rfl, rfl, hi, r, rp, q⟩ := hrel
    by_cases hlt : i < m
    · have him : (i : Int) < (m : Int) := by omega
      obtain ⟨g, cc, hv, hgB, _, hlc, hc63, hcell⟩ := rp.cells (by rw [HM.out]; omega)
      rw [HM.out] at hv hlc hcell
      obtain ⟨d0, d1⟩ := hcell i hlt
      cases hv
      have HS := Lib.hid (numS_take p (i := i) (by rw [HM.out]; exact hlt))
      have hvn := HPN.out i hlt
      obtain ⟨⟨v, d⟩, hx⟩ : ∃ x, p.getD i (0, 0) = x := ⟨_, rfl⟩
      rw [hx] at d0 d1 HS hvn
      simp only [] at d0 d1 hvn
      obtain ⟨⟨M, f⟩, hMf⟩ : ∃ s, numS (p.take i) = s := ⟨_, rfl⟩
      rw [hMf] at HS r ⊢
      simp only [] at r ⊢
      have hvn2 : (v : Int) < (n : Int) := by omega
      have c0 := r.cell hvn
      have c1 := r.frozen v
      clear hcell hx hMf
      by_cases hd : M < d
      · have hd2 : (M : Int) < (d : Int) := by omega
        have HS2 := Lib.hid (show numS (p.take (i + 1)) = (d, fun u => if u = v then d else f u) from by rw [HS.out]; unfold accN; simp only []; rw [Nat.max_eq_right (by omega)])
        have r2 := r.set_ v (d : Int)
        have rp2 := rp.far (p := ⟨gn, v, none⟩) (fun k' hk' => by have := hbs k' hk'; show k' ≠ gn; omega) (.int .i64 (d : Int))
        have q2 := q.setCell (p := ⟨gn, v, none⟩) hg0 (.int .i64 (d : Int))
        clear r rp q
        go_wp2_with fail
        go_roundw
        case rel => exact ⟨i + 1, by rw [HS2.out], by simp, by omega, r2.congr (fun u hu => by rw [HS2.out]; show (if u = v then (d : Int) else (f u : Nat)) = ((if u = v then d else f u : Nat) : Int); split <;> rfl), rp2, q2⟩
        case measure => simp [intOf]; omega
      · have hd2 : ¬ (M : Int) < (d : Int) := by omega
        have HS2 := Lib.hid (show numS (p.take (i + 1)) = (M, fun u => if u = v then M else f u) from by rw [HS.out]; unfold accN; simp only []; rw [Nat.max_eq_left (by omega)])
        have r2 := r.set_ v (M : Int)
        have rp2 := rp.far (p := ⟨gn, v, none⟩) (fun k' hk' => by have := hbs k' hk'; show k' ≠ gn; omega) (.int .i64 (M : Int))
        have q2 := q.setCell (p := ⟨gn, v, none⟩) hg0 (.int .i64 (M : Int))
        clear r rp q
        go_wp2_with fail
        go_roundw
        case rel => exact ⟨i + 1, by rw [HS2.out], by simp, by omega, r2.congr (fun u hu => by rw [HS2.out]; show (if u = v then (M : Int) else (f u : Nat)) = ((if u = v then M else f u : Nat) : Int); split <;> rfl), rp2, q2⟩
        case measure => simp [intOf]; omega
    · have eim : m = i := by omega
      subst eim
      have him : ¬ (m : Int) < (m : Int) := by omega
      have r := r.congr (f' := fun u => (num E n u : Nat)) (fun u _ => by rw [HO.out, List.take_of_length_le (by rw [HM.out]; exact Nat.le_refl _)])
      clear rp
      go_wp2_with fail
      go_ret
      exact ⟨gn, rfl, hg0, r, q⟩
/-- the greatest core number is the degeneracy -/
theorem numS_top (p : List (Nat × Nat)) : (∀ x ∈ p, (numS p).2 x.1 ≤ (numS p).1) ∧ (p ≠ [] → ∃ x ∈ p, (numS p).2 x.1 = (numS p).1) ∧ (p = [] → (numS p).1 = 0) := by
  have key : ∀ r : List (Nat × Nat), (∀ x ∈ r.reverse, (numS r.reverse).2 x.1 ≤ (numS r.reverse).1) ∧ (r.reverse ≠ [] → ∃ x ∈ r.reverse, (numS r.reverse).2 x.1 = (numS r.reverse).1) ∧ (r.reverse = [] → (numS r.reverse).1 = 0) := by
    intro r
    induction r with
    | nil => exact ⟨fun x hx => (by cases hx), fun h => absurd rfl h, fun _ => rfl⟩
    | cons x r ih =>
      rw [List.reverse_cons, numS_snoc]
      unfold accN
      simp only []
      refine ⟨fun y hy => ?_, fun _ => ⟨x, by simp, if_pos rfl⟩, fun h => by simp at h⟩
      split
      · exact Nat.le_refl _
      · rcases List.mem_append.1 hy with hy | hy
        · exact Nat.le_trans (ih.1 y hy) (Nat.le_max_left _ _)
        · simp at hy; subst hy; exact absurd rfl ‹_›
  have := key p.reverse
  rwa [List.reverse_reverse] at this
theorem peel_all (E : Es) (n : Nat) {u : Nat} (hu : u < n) : ∃ d, (u, d) ∈ peel E n := by
  have h := peeled E n n (Nat.le_refl _)
  have hm : u ∈ (peelN E n n).2.map (·.1) := by
    apply Classical.byContradiction
    intro hno
    have := nodup_sub (l := u :: (peelN E n n).2.map (·.1)) (m := List.range n) (List.nodup_cons.2 ⟨hno, h.nd⟩) (fun x hx => by
      rcases List.mem_cons.1 hx with rfl | hx
      · simpa using hu
      · obtain ⟨y, hy, rfl⟩ := List.mem_map.1 hx
        simpa using h.lt y hy)
    rw [List.length_cons, List.length_map, h.len, List.length_range] at this
    omega
  obtain ⟨x, hx, e⟩ := List.mem_map.1 hm
  exact ⟨x.2, by show _ ∈ (peelN E n n).2; rw [← e]; exact hx⟩
theorem most_is (E : Es) (n : Nat) : IsMaxOf (num E n) n (most E n) := by
  obtain ⟨h1, h2, h3⟩ := numS_top (peel E n)
  have hl : (peel E n).length = n := (peeled E n n (Nat.le_refl _)).len
  refine ⟨fun v hv => ?_, fun hn => ?_, fun h0 => ?_⟩
  · obtain ⟨d, hd⟩ := peel_all E n hv
    exact h1 _ hd
  · obtain ⟨x, hx, e⟩ := h2 (fun e => by rw [e] at hl; simp at hl; omega)
    exact ⟨x.1, (peeled E n n (Nat.le_refl _)).lt x hx, e.symm⟩
  · exact h3 (List.eq_nil_of_length_eq_zero (by omega))
theorem IsMaxOf.uniq {f : Nat → Nat} {n G G' : Nat} (h : IsMaxOf f n G) (h' : IsMaxOf f n G') : G = G' := by
  rcases Nat.eq_zero_or_pos n with h0 | h0
  · rw [h.2.2 h0, h'.2.2 h0]
  · obtain ⟨v, hv, e⟩ := h.2.1 h0
    obtain ⟨v', hv', e'⟩ := h'.2.1 h0
    have a := h.1 v' hv'
    have b := h'.1 v hv
    omega
set_option maxRecDepth 100000 in
set_option maxHeartbeats 2000000 in
theorem rdegeneracy_ok {w : World} {A : Option Addr} {c n : Nat} {E : Es} (ha : EA w A c E) (hF : Fine n E) :
    Calls Try.prog 29 #[.int .i64 (n : Int), .slice A E.length c] w fun e w' => e = .returned (.int .i64 (most E n : Nat)) ∧ Below w.heap.size w w' := by
  have hn := hF.1
  have xn := rnumbers_ok ha hF
  have HX := Lib.hid (most_is E n)
  obtain ⟨M, hM⟩ : ∃ x, most E n = x := ⟨_, rfl⟩
  obtain ⟨f, hf⟩ : ∃ x, num E n = x := ⟨_, rfl⟩
  rw [hM, hf] at HX
  rw [hf] at xn
  rw [hM]
  clear hM hf ha
  go_enter Try.func29, Try.ntmps29
  go_wp2_with fail
  refine xn.mono ?_
  rintro e w1 ⟨gn, rfl, hgn, hR, q1⟩
  clear xn
  have HR := Lib.hid (fun i (hi : i < n) => hR.cell hi)
  clear hR
  go_wp2_with fail
  go_loopw [5, 7] (fun v5 v7 wr => ∃ (i G : Nat), v5 = .int .i64 G ∧ v7 = .int .i64 i ∧ i ≤ n ∧ Hid ((∀ u, u < i → f u ≤ G) ∧ (G = 0 ∨ ∃ u, u < i ∧ f u = G)) ∧ w1 = wr) (fun _ v _ => 20000 - (intOf v).toNat)
  case atStart => exact ⟨0, 0, rfl, rfl, Nat.zero_le _, Lib.hid ⟨fun u hu => by omega, .inl rfl⟩, rfl⟩
  case round =>
    obtain ⟨i, G, rfl, rfl, hi, HG, rfl⟩ := hrel
    by_cases hlt : i < n
    · have hin : (i : Int) < (n : Int) := by omega
      have c0 := HR.out i hlt
      obtain ⟨x, hx⟩ : ∃ x, f i = x := ⟨_, rfl⟩
      have HE := Lib.hid hx
      rw [hx] at c0
      clear hx
      by_cases hd : G < x
      · have hd2 : (G : Int) < (x : Int) := by omega
        go_wp2_with fail
        go_roundw
        case rel => exact ⟨i + 1, x, rfl, by simp, by omega, Lib.hid ⟨fun u hu => by
          by_cases e : u = i
          · subst e; rw [HE.out]; exact Nat.le_refl _
          · have := HG.out.1 u (by omega); omega, .inr ⟨i, by omega, HE.out⟩⟩, by trivial⟩
        case measure => simp [intOf]; omega
      · have hd2 : ¬ (G : Int) < (x : Int) := by omega
        go_wp2_with fail
        go_roundw
        case rel => exact ⟨i + 1, G, rfl, by simp, by omega, Lib.hid ⟨fun u hu => by
          by_cases e : u = i
          · subst e; rw [HE.out]; omega
          · exact HG.out.1 u (by omega), HG.out.2.imp id (fun ⟨u, h1, h2⟩ => ⟨u, by omega, h2⟩)⟩, by trivial⟩
        case measure => simp [intOf]; omega
    · have ein : n = i := by omega
      subst ein
      have hin : ¬ (n : Int) < (n : Int) := by omega
      have HE := Lib.hid (show G = M from by
        obtain ⟨a1, a2, a3⟩ := HX.out
        obtain ⟨b1, b2⟩ := HG.out
        rcases Nat.eq_zero_or_pos n with h0 | h0
        · rcases b2 with b2 | ⟨u, hu, _⟩
          · rw [a3 h0, b2]
          · omega
        · obtain ⟨v, hv, e⟩ := a2 h0
          have := b1 v hv
          rcases b2 with b2 | ⟨u, hu, e2⟩
          · omega
          · have := a1 u hu; omega)
      go_wp2_with fail
      go_ret
      exact ⟨by rw [← HE.out]; rfl, q1⟩
end Go.Proofs.Ytoiafopndlnknaa
