/-
  The buckets: sorted.
-/
import Derived.Test.YtoiafopndlnknaaB8
set_option linter.unusedVariables false
set_option linter.unusedSimpArgs false
namespace Go.Proofs.Ytoiafopndlnknaa
open Go.RowKit Go.Shelf

set_option maxRecDepth 100000 in
theorem degree_ok {w : World} {K : GB} {n : Nat} {E : Es} (h : Gr w K n E) {v : Nat} (hv : v < n) :
    Calls Try.prog 44 #[.pointer (some ⟨K.g, 0, none⟩), .int .i64 (v : Int)] w fun e w' => e = .returned (.int .i64 (cnt E v E.length : Nat)) ∧ ∃ nq, w' = w.drewN nq := by
  have x0 := at_ok h hv
  clear h
  go_enter Try.func44, Try.ntmps44
  go_wp2_with fail
  refine x0.mono ?_
  rintro e w' ⟨o, c, rfl, _, hc, hc2, nq, rfl⟩
  go_wp2_with fail
  go_ret
  exact ⟨rfl, nq, rfl⟩
theorem info31 : (Try.prog.info? 31).map (fun i => (i.zero, i.size, i.bytes)) = some (some (.slice none 0 0), 1, 24) := by kernel_rfl
def nilsV (n : Nat) : Array Value := madeCells #[.slice none 0 0] n
theorem run_make107 (n : Nat) (hn : n ≤ 100000) (w : World) :
    (Instr.makeSlice 107 (.int .i64 (n : Int)) (.int .i64 (n : Int))).run Try.prog w = .ok (.slice (some ⟨w.heap.size, 0, none⟩) n n) (w.alloc (.cells (nilsV n) 31)) := by
  obtain ⟨i0, hi, hz0, hz1, hz2⟩ := info_parts info31
  have hr := Go.run_make (P := Try.prog) w 107 31 i0 (.slice none 0 0) Try.underlying107 hi hz0 .i64 .i64 n n (by omega) (by omega) (by rw [hz2]; omega) (by omega)
  simp only [Int.toNat_natCast] at hr
  rw [hr, hz1, Nat.mul_one]
  rfl
theorem nilsV_get {n i : Nat} (h : i < n) : (nilsV n)[i]? = some (.slice none 0 0) := by
  unfold nilsV
  rw [← Array.getElem?_toList, toList_madeCells_one, List.getElem?_replicate, if_pos h]
theorem Bk.mem_congr {w : World} {b gd gm n B low : Nat} {dv : Nat → Int} {mem mem' : Nat → List Nat} {X : Nat → Prop} (h : Bk w b gd gm n B dv mem low X) (he : ∀ d, d < B → mem d = mem' d) : Bk w b gd gm n B dv mem' low X := by
  obtain ⟨vs, a1, a2, a3⟩ := h.ms
  exact ⟨h.box, h.deg, ⟨vs, a1, fun d hd => by rw [← he d hd]; exact a2 d hd, a3⟩, h.nx, h.xs, h.nb⟩
def fit (D : Nat → Nat) (i d : Nat) : List Nat := (List.range i).filter fun u => D u == d
theorem fit_succ (D : Nat → Nat) (i d : Nat) : fit D (i + 1) d = upd (fit D i) (D i) (fit D i (D i) ++ [i]) d := by
  unfold fit upd
  rw [List.range_succ, List.filter_append]
  by_cases h : d = D i
  · subst h; rw [if_pos rfl]; simp
  · rw [if_neg h]
    have : (D i == d) = false := by rw [beq_eq_false_iff_ne]; exact fun e => h e.symm
    simp [this]
/-- what sorted gives -/
def SortedR (w : World) (n : Nat) (D : Nat → Nat) (e : Ending) (w' : World) : Prop := ∃ b gd gm B, e = .returned (.pointer (some ⟨b, 0, none⟩)) ∧ Bk w' b gd gm n B (fun u => (D u : Nat)) (fit D n) 0 (fun k => k < w.heap.size) ∧ (∀ u, u < n → D u < B) ∧ Below w.heap.size w w'
set_option maxRecDepth 100000 in
set_option maxHeartbeats 2000000 in
theorem sorted_ok {w : World} {K : GB} {n : Nat} {E : Es} (h : Gr w K n E) :
    Calls Try.prog 54 #[.pointer (some ⟨K.g, 0, none⟩)] w fun e w' => SortedR w n (fun u => cnt E u E.length) e w' := by
  have x0 := n_ok h
  have hn := h.fine.1
  have hm := h.fine.2.1
  have mk1 := run_make31 n (by omega)
  have HDG := Lib.hid (fun (W : World) (q : Below w.heap.size w W) (v : Nat) (hv : v < n) => degree_ok (h.below q) hv)
  obtain ⟨D, hD⟩ : ∃ D, (fun u => cnt E u E.length) = D := ⟨_, rfl⟩
  have HDL := Lib.hid (show ∀ u, D u ≤ 20000 from fun u => by rw [← hD]; have := cnt_le E u E.length; show cnt E u E.length ≤ _; omega)
  have HDE := Lib.hid (show ∀ u, cnt E u E.length = D u from fun u => by rw [← hD])
  rw [hD]
  have HX := Lib.hid hD
  clear hD h
  go_enter Try.func54, Try.ntmps54
  go_wp2_with fail
  refine x0.mono ?_
  rintro e w' ⟨rfl, rfl⟩
  clear x0
  go_upto_region 4 with fail
  have b2 := below_new2 w (.cells (zerosK .i64 n) 3) (.cells #[.slice (some ⟨w.heap.size, 0, none⟩) n n, .slice none 0 0, .int .i64 0] 109)
  have k0 := Blk.new2 w (.cells (zerosK .i64 n) 3) 109 #[.slice (some ⟨w.heap.size, 0, none⟩) n n, .slice none 0 0, .int .i64 0]
  have r0 := (RowF.new .i64 w 3 n).alloc (.cells #[.slice (some ⟨w.heap.size, 0, none⟩) n n, .slice none 0 0, .int .i64 0] 109)
  clear mk1
  generalize (w.alloc (.cells (zerosK .i64 n) 3)).alloc (.cells #[.slice (some ⟨w.heap.size, 0, none⟩) n n, .slice none 0 0, .int .i64 0] 109) = W1 at *
  obtain ⟨gd, hgd⟩ : ∃ g, w.heap.size = g := ⟨_, rfl⟩
  obtain ⟨b, hb⟩ : ∃ b, w.heap.size + 1 = b := ⟨_, rfl⟩
  rw [hb, hgd] at k0
  rw [hgd] at r0
  rw [hb, hgd]
  have HB := Lib.hid (And.intro hgd hb)
  have hgdb : gd ≠ b ∧ w.heap.size ≤ gd ∧ w.heap.size ≤ b := by omega
  clear hgd hb
  obtain ⟨hgdb, hgd, hbb⟩ := hgdb
  go_loopw [4, 5, 18] (fun vg _ v wr => ∃ (i G : Nat), vg = .int .i64 G ∧ v = .int .i64 i ∧ i ≤ n ∧ G ≤ 20000 ∧ Hid (∀ u, u < i → D u ≤ G) ∧ Blk wr b 109 #[.slice (some ⟨gd, 0, none⟩) n n, .slice none 0 0, .int .i64 0] ∧ RowF .i64 wr gd 3 n (fun u => if u < i then (D u : Nat) else 0) ∧ Below w.heap.size w wr) (fun _ _ v _ => 20000 - (intOf v).toNat)
  case atStart => exact ⟨0, 0, rfl, rfl, Nat.zero_le _, by omega, Lib.hid (fun u hu => by omega), k0, r0.congr (fun i hi => by rw [if_neg (by omega)]), b2⟩
  case round =>
    clear k0 r0 b2
    obtain ⟨i, G, rfl, rfl, hi, hG, HG, k0, r0, q0⟩ := hrel
    by_cases hlt : i < n
    · have hin : (i : Int) < (n : Int) := by omega
      have xd := Lib.hid (show ∀ (W : World) (q : Below wr.heap.size wr W), Calls Try.prog 44 #[.pointer (some ⟨K.g, 0, none⟩), .int .i64 (i : Int)] W fun e w' => e = .returned (.int .i64 (D i : Nat)) ∧ Below wr.heap.size wr w' from fun W q => (HDG.out W (below_end q0 q0.size q) i hlt).mono fun e w' ⟨h1, nq, h2⟩ => ⟨by rw [h1, HDE.out i], by rw [h2]; exact below_drewN q nq⟩)
      have KEEP := Lib.hid (fun (W : World) (q : Below wr.heap.size wr W) => show W.cell? ⟨b, 0, none⟩ = some (.slice (some ⟨gd, 0, none⟩) n n) ∧ W.frozen? ⟨gd, i, none⟩ = false ∧ (∃ old, W.cell? ⟨gd, i, none⟩ = some old) from ⟨(k0.below q k0.lt).cell 0, (r0.below' q).frozen i, _, (r0.below' q).cell hlt⟩)
      have hDi := HDL.out i
      obtain ⟨d, hd⟩ : ∃ d, D i = d := ⟨_, rfl⟩
      rw [hd] at hDi xd
      obtain ⟨kA, kF, old0, kO⟩ := KEEP.out wr (Below.refl _ _)
      go_upto_region 6 with fail
      obtain ⟨kA2, kF2, old2, kO2⟩ := KEEP.out wr.drew (bdrew (Below.refl _ _))
      go_region_law (go_simp; go_at_call 44; refine (xd.out _ (by repeat (first | (with_reducible exact Below.refl _ _) | (with_reducible apply bdrew)))).mono ?_; rintro e w2 ⟨rfl, q2⟩; obtain ⟨kA3, kF3, old3, kO3⟩ := KEEP.out w2 q2)
      all_goals
        have k1 := (k0.below q2 k0.lt).far (p := ⟨gd, i, none⟩) (Ne.symm hgdb) (.int .i64 (d : Nat))
        have r1 := (r0.below' q2).set_ i ((d : Nat) : Int)
        have q1 := (below_end q0 q0.size q2).setCell (p := ⟨gd, i, none⟩) hgd (.int .i64 (d : Nat))
        generalize w2.setCell ⟨gd, i, none⟩ (.int .i64 (d : Nat)) = W3 at *
        clear k0 r0 q0 q2 kA kF kO kA2 kF2 kO2 kA3 kF3 kO3
        have c0 := k1.cell 0
        have c1 := r1.cell hlt
        simp at c0 c1
        have hmax : max (G : Int) (d : Int) = ((max G d : Nat) : Int) := by omega
        go_wp2_with fail
        go_roundw
        case rel => exact ⟨i + 1, max G d, by simp [hmax], by simp, by omega, by omega, Lib.hid (fun u hu => by
          rcases Nat.lt_or_ge u i with h | h
          · have := HG.out u h; omega
          · obtain rfl : u = i := by omega
            omega), k1, r1.congr (fun u hu => by
          by_cases hui : u = i
          · subst hui; rw [if_pos rfl, if_pos (by omega), hd]
          · rw [if_neg hui]
            by_cases h2 : u < i
            · rw [if_pos h2, if_pos (by omega)]
            · rw [if_neg h2, if_neg (by omega)]), q1⟩
        case measure => simp [intOf]; omega
    · have ein : n = i := by omega
      subst ein
      have r0 : RowF .i64 wr gd 3 n (fun u => (D u : Nat)) := r0.congr (fun u hu => by rw [if_pos hu])
      have him : ¬ (n : Int) < (n : Int) := by omega
      have mk2 : ∀ w, (Instr.makeSlice 107 (.int .i64 ((G : Int) + 1)) (.int .i64 ((G : Int) + 1))).run Try.prog w = _ := fun w => run_make107 (G + 1) (by omega) w
      have c0 := k0.cell 0
      have c1 := k0.cell 1
      have c3 := k0.frozen 1
      simp at c0 c1
      have hs0 := q0.size
      have hl0 := k0.lt
      have k1 : Blk (wr.setCell ⟨b, 1, none⟩ (.slice (some ⟨wr.heap.size, 0, none⟩) (G + 1) (G + 1))) b 109 #[.slice (some ⟨gd, 0, none⟩) n n, .slice (some ⟨wr.heap.size, 0, none⟩) (G + 1) (G + 1), .int .i64 0] := by
        have := k0.set_ 1 (.slice (some ⟨wr.heap.size, 0, none⟩) (G + 1) (G + 1))
        simpa using this
      have r1 := r0.far (p := ⟨b, 1, none⟩) hgdb (.slice (some ⟨wr.heap.size, 0, none⟩) (G + 1) (G + 1))
      have q1 := q0.setCell (p := ⟨b, 1, none⟩) hbb (.slice (some ⟨wr.heap.size, 0, none⟩) (G + 1) (G + 1))
      have m2 : Blk ((wr.setCell ⟨b, 1, none⟩ (.slice (some ⟨wr.heap.size, 0, none⟩) (G + 1) (G + 1))).alloc (.cells (nilsV (G + 1)) 31)) wr.heap.size 31 (nilsV (G + 1)) := by
        have := Blk.new (wr.setCell ⟨b, 1, none⟩ (.slice (some ⟨wr.heap.size, 0, none⟩) (G + 1) (G + 1))) 31 (nilsV (G + 1))
        simpa using this
      have hgm : b ≠ wr.heap.size := by omega
      have hgm0 : w.heap.size ≤ wr.heap.size := hs0
      have q2 := q1.alloc q1.size (.cells (nilsV (G + 1)) 31)
      have k2 := k1.alloc (.cells (nilsV (G + 1)) 31)
      have r2 := r1.alloc (.cells (nilsV (G + 1)) 31)
      go_upto_region 10 with fail
      clear mk2 c0 c1 c3 k1 r1 q1
      generalize (wr.setCell ⟨b, 1, none⟩ (.slice (some ⟨wr.heap.size, 0, none⟩) (G + 1) (G + 1))).alloc (.cells (nilsV (G + 1)) 31) = W3 at *
      obtain ⟨gm, hgm'⟩ : ∃ g, wr.heap.size = g := ⟨_, rfl⟩
      rw [hgm'] at m2 k2 hgm hgm0
      rw [hgm']
      clear hgm'
      have hB0 : Bk W3 b gd gm n (G + 1) (fun u => (D u : Nat)) (fit D 0) 0 (fun k => k < w.heap.size) :=
        ⟨k2, r2, ⟨fun _ => .slice none 0 0, ⟨_, m2, fun d hd => nilsV_get hd⟩, fun d hd => ⟨RowL.nil _ _, fun k hk => by cases hk⟩, fun d d' _ _ _ => .inl rfl⟩, ⟨by omega, by omega, by omega⟩, fun k hk => Nat.lt_of_lt_of_le hk q2.size, hn, by omega, by omega⟩
      clear k0 r0 q0 k2 r2 m2
      obtain ⟨B, hB⟩ : ∃ B, G + 1 = B := ⟨_, rfl⟩
      have HGB := Lib.hid (show ∀ u, u < n → D u < B from fun u hu => by have := HG.out u hu; omega)
      have hBs : B ≤ 30000 := by omega
      rw [hB] at hB0
      clear hB HG hG
      obtain ⟨c0, c1, c2⟩ := hB0.cells
      go_upto_region 11 with fail
      clear c0 c1 c2
      have HT0 := Lib.hid (show Tn (fun k => k < w.heap.size) W3 W3 from Tn.refl _ _)
      clear him HDG
      go_loopw [6, 7, 51] (fun _ _ v wr => ∃ j : Nat, v = .int .i64 j ∧ j ≤ n ∧ Bk wr b gd gm n B (fun u => (D u : Nat)) (fit D j) 0 (fun k => k < w.heap.size) ∧ Below w.heap.size w wr) (fun _ _ v _ => 20000 - (intOf v).toNat)
      case atStart => exact ⟨0, rfl, Nat.zero_le _, hB0, q2⟩
      case round =>
        clear hB0 q2
        obtain ⟨j, rfl, hj, h1, q1⟩ := hrel
        by_cases hlt : j < n
        · have hjn : (j : Int) < (n : Int) := by omega
          obtain ⟨d, hd⟩ : ∃ d, D j = d := ⟨_, rfl⟩
          have hdB : d < B := by rw [← hd]; exact HGB.out j hlt
          have hdB2 : (d : Int) < (B : Int) := by omega
          have hl : (fit D j d).length ≤ 100000 := by
            have := List.length_filter_le (fun u => D u == d) (List.range j)
            rw [List.length_range] at this
            unfold fit
            omega
          have HS := Lib.hid (show ∀ e, upd (fit D j) d (fit D j d ++ [j]) e = fit D (j + 1) e from fun e => by rw [fit_succ, hd])
          obtain ⟨c0, c1, c2⟩ := h1.cells
          have c5 := h1.deg.cell hlt
          rw [hd] at c5
          clear hd
          go_upto_region 13 with fail
          clear c5
          obtain ⟨v, e1, r1, o1, _⟩ := h1.ms.lists hdB
          have HV := Lib.hid (fun (W : World) (q : Below wr.heap.size wr W) => show RowL W 0 v ((fit D j) d) from r1.below q)
          have HKC := Lib.hid (fun (W : World) => show (W.alloc (.cells #[.int .i64 (j : Int)] 3)).cell? ⟨W.heap.size, 0, none⟩ = some (.int .i64 (j : Int)) from (Blk.new W 3 #[.int .i64 (j : Int)]).cell 0)
          have KEEP := Lib.hid (fun (W : World) (q : Below wr.heap.size wr W) => show W.cell? ⟨b, 1, none⟩ = some (.slice (some ⟨gm, 0, none⟩) B B) ∧ W.cell? ⟨gm, d, none⟩ = some v from ⟨(h1.below q).cells.2.1, (q.cell (p := ⟨gm, d, none⟩) h1.lt.2.2).trans e1⟩)
          have FIN := Lib.hid (show ∀ (Wp w2 : World) (v' : Value), Below wr.heap.size wr Wp → RowL w2 0 v' ((fit D j) d ++ [j]) → Wp.grownBy w2 v.ownBlock → (v'.ownBlock = v.ownBlock ∨ v'.ownBlock = some Wp.heap.size) → ∃ A' k' c', v' = .slice A' k' c' ∧ w2.cell? ⟨b, 1, none⟩ = some (.slice (some ⟨gm, 0, none⟩) B B) ∧ w2.cell? ⟨gm, d, none⟩ = some v ∧ w2.frozen? ⟨gm, d, none⟩ = false ∧ Bk (w2.setCell ⟨gm, d, none⟩ (.slice A' k' c')) b gd gm n B (fun u => (D u : Nat)) (upd (fit D j) d ((fit D j) d ++ [j])) 0 (fun k => k < w.heap.size) ∧ Below w.heap.size w (w2.setCell ⟨gm, d, none⟩ (.slice A' k' c')) from fun Wp w2 v' q g1 g2 g3 => by
            obtain ⟨A', c', rfl⟩ := g1.slice
            obtain ⟨f1, f2, f3, f4, f5⟩ := (h1.below q).grow hdB ((q.cell (p := ⟨gm, d, none⟩) h1.lt.2.2).trans e1) g1 g2 g3
            have hq := below_end q1 q1.size q
            exact ⟨A', _, c', rfl, f1, f2, f3, f4, hq.trans (f5.1.below hq.size (fun k hk g => g hk))⟩)
          obtain ⟨Av, kv, cv, rfl⟩ : ∃ A k c, v = .slice A k c := by obtain ⟨A, c, e⟩ := r1.slice; exact ⟨A, _, c, e⟩
          clear h1 q1 r1 o1
          obtain ⟨kA, kB⟩ := KEEP.out wr (Below.refl _ _)
          go_upto_region 13 with fail
          obtain ⟨kA2, kB2⟩ := KEEP.out wr.drew (bdrew (Below.refl _ _))
          obtain ⟨kA3, kB3⟩ := KEEP.out (wr.alloc (.cells #[.int .i64 (j : Int)] 3)).drew (bdrew (balloc (Below.refl _ _) _))
          obtain ⟨kA4, kB4⟩ := KEEP.out (wr.alloc (.cells #[.int .i64 (j : Int)] 3)) (balloc (Below.refl _ _) _)
          go_region_law (refine step_append_num_at rfl (.tmp 67) (.tmp 69) rfl 0 (.slice Av kv cv) ((fit D j) d) j _ rfl (HV.out _ (by repeat (first | (with_reducible exact Below.refl _ _) | (with_reducible apply bdrew) | (with_reducible apply balloc)))) rfl (HKC.out _) hl (Nat.zero_le _) ?_; intro v' w2 t1 t2 t3; obtain ⟨A', k', c', rfl, f1, f2, f3, f4, f5⟩ := FIN.out _ w2 v' (by repeat (first | (with_reducible exact Below.refl _ _) | (with_reducible apply bdrew) | (with_reducible apply balloc))) t1 t2 t3; clear t1 t2 t3)
          all_goals
            generalize w2.setCell ⟨gm, d, none⟩ (.slice A' k' c') = W4 at *
            clear kA kB kA2 kB2 kA3 kB3 kA4 kB4 f1 f2 f3 c0 c1 c2 e1
            have f6 := f4.mem_congr (fun e _ => HS.out e)
            clear f4
            go_wp2_with fail
            go_roundw
            case rel => exact ⟨j + 1, by simp, by omega, f6, f5⟩
            case measure => simp [intOf]; omega
        · obtain rfl : j = n := by omega
          have him : ¬ (j : Int) < (j : Int) := by omega
          go_wp2_with fail
          go_ret
          exact ⟨b, gd, gm, B, rfl, h1, fun u hu => HGB.out u hu, q1⟩
end Go.Proofs.Ytoiafopndlnknaa
