/-
  Colors.
-/
import Derived.Test.YtoiafopndlnknaaF1
set_option linter.unusedVariables false
set_option linter.unusedSimpArgs false
namespace Go.Proofs.Ytoiafopndlnknaa
open Go.RowKit Go.Shelf

attribute [local go_sem] Oper.semAt_some

/-- what Colors holds between two vertices -/
structure CI (w : World) (gc Bc BG n : Nat) (K : GB) (E : Es) (col : Nat → Int) (W : World) : Prop where
  r : RowF .i64 W gc 3 n col
  kc : Blk W Bc 31 #[.slice (some ⟨gc, 0, none⟩) n n]
  kG : Blk W BG 27 #[.pointer (some ⟨K.g, 0, none⟩)]
  g : Gr W K n E
  q : Below w.heap.size w W
theorem CI.below {w W W' : World} {gc Bc BG n : Nat} {K : GB} {E : Es} {col : Nat → Int} (h : CI w gc Bc BG n K E col W) (hb : Below W.heap.size W W') : CI w gc Bc BG n K E col W' :=
  ⟨h.r.below' hb, h.kc.below hb h.kc.lt, h.kG.below hb h.kG.lt, h.g.below hb, below_end h.q h.q.size hb⟩
theorem CI.own {w W W' : World} {gc Bc BG n B : Nat} {K : GB} {E : Es} {col : Nat → Int} {row : Option Nat} (h : CI w gc Bc BG n K E col W) (hB : w.heap.size ≤ B) (hg : W.grownBy W' row) (hr : ∀ r, row = some r → B ≤ r ∧ ∃ o : Obj, W.heap[r]? = some o ∧ o.isCells = false) : CI w gc Bc BG n K E col W' := by
  have keep : ∀ (k : Nat) (o : Obj), W.heap[k]? = some o → o.isCells = true → W'.heap[k]? = some o := fun k o ho hc => (hg.block k (Array.getElem?_eq_some_iff.1 ho).1 (fun e => by
    obtain ⟨_, o2, h2, hc2⟩ := hr k e.symm
    rw [ho] at h2
    cases h2
    rw [hc] at hc2
    cases hc2)).trans ho
  obtain ⟨cs, h1, h2⟩ := h.r
  exact ⟨⟨cs, keep _ _ h1 rfl, h2⟩, keep _ _ h.kc rfl, keep _ _ h.kG rfl, h.g.kept (fun k o _ ho hc => keep k o ho hc) hg.size, h.q.grown hg h.q.size (fun k hk => Nat.le_trans hB (hr k hk).1)⟩
theorem CI.far {w W : World} {gc Bc BG n : Nat} {K : GB} {E : Es} {col : Nat → Int} (h : CI w gc Bc BG n K E col W) {p : Addr} (u : Value) (h1 : gc ≠ p.block) (h2 : Bc ≠ p.block) (h3 : BG ≠ p.block) (h4 : ∀ k ∈ K.l, k ≠ p.block) (h5 : w.heap.size ≤ p.block) : CI w gc Bc BG n K E col (W.setCell p u) :=
  ⟨h.r.far h1 u, h.kc.far h2 u, h.kG.far h3 u, h.g.heap (fun k hk => Below.heap_setCell W p u k (h4 k hk)) (by simp), h.q.setCell h5 u⟩
theorem Blk.own' {W W' : World} {row : Option Nat} {g : Nat} {t : TypeId} {cs : Array Value} (h : Blk W g t cs) (hg : W.grownBy W' row) (hr : ∀ r, row = some r → ∃ o : Obj, W.heap[r]? = some o ∧ o.isCells = false) : Blk W' g t cs := h.own hg hr
set_option maxRecDepth 100000 in
set_option maxHeartbeats 4000000 in
theorem colors_ok {w : World} {K : GB} {n : Nat} {E : Es} (hG : Gr w K n E) :
    Calls Try.prog 26 #[.pointer (some ⟨K.g, 0, none⟩)] w fun e w' => ∃ gc, e = .returned (.slice (some ⟨gc, 0, none⟩) n n) ∧ w.heap.size ≤ gc ∧ RowF .i64 w' gc 3 n (colF E (ord E n).reverse) ∧ Below w.heap.size w w' := by
  have hn := hG.fine.1
  have hm := hG.fine.2.1
  have hGL := Lib.hid hG.lt
  have mk1 := run_make31 n (by omega)
  refine calls_of_marks Try.func26 rfl ?_
  simp only [Try.ntmps26, List.size_toArray, List.length_cons, List.length_nil, Nat.reduceAdd, Nat.reduceSub, Array.replicate_succ, Array.replicate_zero, List.push_toArray, List.append_toArray, List.nil_append, List.cons_append]
  have b1 := below_new1 w (.cells #[.pointer (some ⟨K.g, 0, none⟩)] 27)
  have kG := Blk.new w 27 #[.pointer (some ⟨K.g, 0, none⟩)]
  have hG1 := hG.below b1
  clear hG
  go_upto_region 1 with fail
  generalize w.alloc (.cells #[.pointer (some ⟨K.g, 0, none⟩)] 27) = W1 at *
  obtain ⟨BG, hBG⟩ : ∃ x, w.heap.size = x := ⟨_, rfl⟩
  have hBG0 : w.heap.size ≤ BG := by omega
  rw [hBG] at kG
  rw [hBG]
  have HBG := Lib.hid hBG
  clear hBG
  have cG := kG.cell 0
  simp at cG
  have xn := n_ok hG1
  go_wp2_with fail
  refine xn.mono ?_
  rintro e w' ⟨rfl, rfl⟩
  have b3 := below_new2 W1 (.cells (zerosK .i64 n) 3) (.cells #[.slice (some ⟨W1.heap.size, 0, none⟩) n n] 31)
  have r0 := (RowF.new .i64 W1 3 n).alloc (.cells #[.slice (some ⟨W1.heap.size, 0, none⟩) n n] 31)
  have kc := Blk.new2 W1 (.cells (zerosK .i64 n) 3) 31 #[.slice (some ⟨W1.heap.size, 0, none⟩) n n]
  have hG3 := hG1.below b3
  have kG3 := kG.below b3 kG.lt
  have hGl := kG.lt
  have q3 := below_end b1 b1.size b3
  clear xn hG1 kG cG
  go_upto_region 3 with fail
  clear mk1
  generalize (W1.alloc (.cells (zerosK .i64 n) 3)).alloc (.cells #[.slice (some ⟨W1.heap.size, 0, none⟩) n n] 31) = W3 at *
  obtain ⟨gc, hgc⟩ : ∃ x, W1.heap.size = x := ⟨_, rfl⟩
  obtain ⟨Bc, hBc⟩ : ∃ x, W1.heap.size + 1 = x := ⟨_, rfl⟩
  have hne : gc ≠ Bc ∧ BG < gc ∧ gc < Bc ∧ w.heap.size ≤ gc ∧ w.heap.size ≤ Bc := by omega
  rw [hBc, hgc] at kc
  rw [hgc] at r0
  rw [hBc, hgc]
  clear hgc hBc b1 b3 hGl
  go_loopw [4, 17] (fun _ v wr => ∃ i : Nat, v = .int .i64 i ∧ i ≤ n ∧ RowF .i64 wr gc 3 n (fun u => if u < i then -1 else 0) ∧ Blk wr Bc 31 #[.slice (some ⟨gc, 0, none⟩) n n] ∧ Blk wr BG 27 #[.pointer (some ⟨K.g, 0, none⟩)] ∧ Gr wr K n E ∧ Below w.heap.size w wr) (fun _ v _ => 20000 - (intOf v).toNat)
  case atStart => exact ⟨0, rfl, Nat.zero_le _, r0.congr (fun i hi => by rw [if_neg (by omega)]), kc, kG3, hG3, q3⟩
  case round =>
    clear r0 kc kG3 hG3 q3
    obtain ⟨i, rfl, hi, hr, kc, kG, hG, q⟩ := hrel
    have cc := kc.cell 0
    simp at cc
    by_cases hlt : i < n
    · have hin : (i : Int) < (n : Int) := by omega
      have c1 := hr.cell hlt
      have c2 := hr.frozen i
      have hr2 := hr.set_ i (-1)
      have kc2 := kc.far (p := ⟨gc, i, none⟩) (Ne.symm hne.1) (.int .i64 (-1))
      have kG2 := kG.far (p := ⟨gc, i, none⟩) (by have := hne; show BG ≠ gc; omega) (.int .i64 (-1))
      have hG2 : Gr (wr.setCell ⟨gc, i, none⟩ (.int .i64 (-1))) K n E := hG.heap (fun k hk => Below.heap_setCell wr _ _ k (by have := hGL.out k hk; show k ≠ gc; omega)) (by simp)
      have q2 := q.setCell (p := ⟨gc, i, none⟩) hne.2.2.2.1 (.int .i64 (-1))
      clear hr kc kG hG q
      go_wp2_with fail
      go_roundw
      case rel => exact ⟨i + 1, by simp, by omega, hr2.congr (fun u hu => by
        by_cases e : u = i
        · subst e; rw [if_pos rfl, if_pos (by omega)]
        · rw [if_neg e]
          by_cases h2 : u < i
          · rw [if_pos h2, if_pos (by omega)]
          · rw [if_neg h2, if_neg (by omega)]), kc2, kG2, hG2, q2⟩
      case measure => simp [intOf]; omega
    · have ein : n = i := by omega
      subst ein
      have hin : ¬ (n : Int) < (n : Int) := by omega
      have hr : RowF .i64 wr gc 3 n (fun _ => -1) := hr.congr (fun u hu => by rw [if_pos hu])
      have xo := order_at hG
      have cG := kG.cell 0
      simp at cG
      go_wp2_with fail
      refine xo.mono ?_
      rintro e w4 ⟨go, rfl, hgo, hO, q4⟩
      have hr4 := hr.below' q4
      have kc4 := kc.below q4 kc.lt
      have kG4 := kG.below q4 kG.lt
      have hG4 := hG.below q4
      have q5 := below_end q q.size q4
      have hs4 := q.size
      have hgo2 : Bc < go ∧ w.heap.size ≤ go := ⟨Nat.lt_of_lt_of_le kc.lt hgo, Nat.le_trans q.size hgo⟩
      have hlen : (ord E n).length = n := by unfold ord; rw [List.length_map]; exact (peeled E n n (Nat.le_refl _)).len
      have hol : ∀ x ∈ ord E n, x < n := fun x hx => by
        unfold ord at hx
        obtain ⟨y, hy, rfl⟩ := List.mem_map.1 hx
        exact (peeled E n n (Nat.le_refl _)).lt y hy
      rw [hlen]
      have hO := hO
      clear xo cG cc hr kc kG hG q q4
      have xb := back_any (.slice (some ⟨go, 0, none⟩) n n) (some ⟨go, 0, none⟩) n n rfl w4
      go_wp2_with fail
      refine xb.mono ?_
      rintro e w' ⟨rfl, rfl⟩
      have b5 := below_new1 w4 (.cells #[.slice (some ⟨go, 0, none⟩) n n] 31)
      have kB := Blk.new w4 31 #[.slice (some ⟨go, 0, none⟩) n n]
      have hr5 := hr4.below' b5
      have kc5 := kc4.below b5 kc4.lt
      have kG5 := kG4.below b5 kG4.lt
      have hG5 := hG4.below b5
      have q6 := below_end q5 q5.size b5
      obtain ⟨cso, hko⟩ := hO.cells
      have hR5 : ∃ cs, Blk (w4.alloc (.cells #[.slice (some ⟨go, 0, none⟩) n n] 31)) go 3 cs ∧ ∀ i, i < n → cs[i]? = some (Value.int .i64 ((ord E n).getD i 0 : Nat)) := by
        rcases Nat.eq_zero_or_pos n with hz | hz
        · exact ⟨cso, hko.below b5 hko.lt, fun i hi => by omega⟩
        · have h9 := hO.2
          rw [nums_vals, hlen] at h9
          obtain ⟨g', cp, hv, _, _, cs, h1, h2⟩ := own_row h9 hz
          cases hv
          exact ⟨cs, h1.below b5 h1.lt, h2⟩
      clear hO
      go_wp2_with fail
      have hsz5 : w4.heap.size < (w4.alloc (.cells #[.slice (some ⟨go, 0, none⟩) n n] 31)).heap.size := by simp
      generalize w4.alloc (.cells #[.slice (some ⟨go, 0, none⟩) n n] 31) = W5 at *
      obtain ⟨BS, hBS⟩ : ∃ x, w4.heap.size = x := ⟨_, rfl⟩
      rw [hBS] at kB hsz5
      rw [hBS]
      have hgoS : go < BS := by rw [← hBS]; exact hko.lt
      clear hBS hr4 kc4 kG4 hG4 q5 b5 xb hko
      have hC0 : CI w gc Bc BG n K E (colF E []) W5 := ⟨hr5, kc5, kG5, hG5, q6⟩
      have hxs := back_stops BS go n n (ord E n) hlen (by omega) (Nat.le_refl _) W5 kB hR5
      have HOL := Lib.hid hol
      have HLN := Lib.hid hlen
      have hq6 := q6.size
      have hlt5 : gc < W5.heap.size ∧ Bc < W5.heap.size ∧ BG < W5.heap.size := ⟨hr5.lt, kc5.lt, kG5.lt⟩
      clear hr5 kc5 kG5 hG5 kB hR5 hol
      refine wpIn_wide.1 (wpIn_rangeFunc_ownH (F := Fence.wide) (n := 9) rfl (by decide) (gf := 64) (lb := #[.pointer (some ⟨BS, 0, none⟩)]) rfl trivial (enters_of Try.func64 (by kernel_rfl) rfl) hxs
        (fun h k => h.trans k) (fun W k o o' hk _ _ _ => KpB.putObj o' (fun j hj => by simp at hj hk; rcases hj with rfl | rfl <;> omega)) (Below.refl _ _) (fun _ => rfl)
        (fun pre W => CI w gc Bc BG n K E (colF E (pre.map fun k => (ord E n).getD k 0)) W ∧ W5.heap.size ≤ W.heap.size)
        (fun _ _ _ => False)
        (fun s A A' row ⟨h1, h2⟩ hg hr => ⟨h1.own hq6 hg hr, Nat.le_trans h2 hg.size⟩)
        (fun _ _ _ _ _ hs _ _ => hs)
        ⟨hC0, Nat.le_refl _⟩
        (fun k a' W => a' = { tmps := #[.pointer (some ⟨K.g, 0, none⟩), .pointer (some ⟨BG, 0, none⟩), .slice none 0 0, .pointer (some ⟨Bc, 0, none⟩), u4, .slice (some ⟨go, 0, none⟩) n n, undef, .int .i64 ((ord E n).getD k 0 : Nat), undef, undef, undef, undef, .pointer (some ⟨K.g, 0, none⟩), .int .i64 (n : Nat), .slice (some ⟨gc, 0, none⟩) n n, .slice (some ⟨gc, 0, none⟩) n n, .int .i64 (n : Nat), .int .i64 (n : Nat), .bool false, u19, u20, u21, u22, u23, .pointer (some ⟨K.g, 0, none⟩), .slice (some ⟨go, 0, none⟩) n n, .slice (some ⟨go, 0, none⟩) n n, .func (.func 64) #[] #[.pointer (some ⟨BS, 0, none⟩)], .int .i64 (k : Nat), .int .i64 ((ord E n).getD k 0 : Nat), undef, undef, undef, undef, undef, undef, undef, undef, undef, undef, undef, undef, undef, undef, undef, undef, undef, undef, undef, undef, undef, undef, undef, undef, undef, undef, undef, undef, undef, undef, undef], defers := [] })
        (fun _ _ _ _ _ _ hs _ _ => hs)
        ?assign ?body ?done ?stop)
      case assign =>
        intro l pre k W K' hI hK'
        gi_wp2
        exact hK' _ _ (KeepsFrom.refl _ _) (fun _ _ => rfl) hI rfl
      case stop =>
        rintro D c pre W _ _ h _
        exact h.elim
      case done =>
        rintro D ys W hD rfl ⟨hC, hz⟩ hK
        have c2 := hC.kc.cell 0
        simp at c2
        have hcol : (dnl n).map (fun k => (ord E n).getD k 0) = (ord E n).reverse := by
          rw [dnl_map (ord E n) n (by rw [HLN.out]; exact Nat.le_refl _), List.take_of_length_le (by rw [HLN.out]; exact Nat.le_refl _)]
        rw [hcol] at hC
        have hDl := (Array.getElem?_eq_some_iff.1 hK).1
        go_wp2_with fail
        refine postM_mark rfl hK (results_tmp rfl _ _ _) ?_
        obtain ⟨cs, g1, g2⟩ := hC.r
        exact ⟨gc, rfl, hne.2.2.2.1, ⟨cs, (World.putObj_heap_other (by omega)).trans g1, g2⟩, below_putObj hC.q (by omega) hDl⟩
      case body =>
        rintro l pre k a' W hl ⟨r, hr⟩ ⟨hC, hsz⟩ rfl hpl
        have hvn : (ord E n).getD k 0 < n := by
          rw [List.getD_eq_getElem?_getD]
          cases hk : (ord E n)[k]? with
          | none => show 0 < n; omega
          | some y => exact HOL.out y (List.mem_of_getElem? hk)
        obtain ⟨v, hv⟩ : ∃ v, (ord E n).getD k 0 = v := ⟨_, rfl⟩
        have HV := Lib.hid hv
        obtain ⟨col, hcol⟩ : ∃ c, colF E (pre.map fun k => (ord E n).getD k 0) = c := ⟨_, rfl⟩
        have HCOL := Lib.hid hcol
        rw [hcol] at hC
        rw [hv] at hvn ⊢
        clear hv hcol hpl
        have hlW : l < W.heap.size := (Array.getElem?_eq_some_iff.1 hr).1
        have xd := degree_ok hC.g hvn
        have cG := hC.kG.cell 0
        simp at cG
        have hql := cnt_le E v E.length
        obtain ⟨q, hq⟩ : ∃ q, cnt E v E.length = q := ⟨_, rfl⟩
        have HQ := Lib.hid hq
        rw [hq] at xd hql
        clear hq
        have HC0 := Lib.hid hC
        gi_wp2_with fail
        refine ⟨trivial, (CallsIn.inRound l (callsIn_wide.2 xd)).mono ?_⟩
        rintro e W' ⟨rfl, nq, rfl⟩
        have bd : Below W.heap.size W (W.drewN nq) := below_drewN (Below.refl _ _) nq
        have hC1 := hC.below bd
        have mk2 : ∀ w, (Instr.makeSlice 34 (.int .i64 ((q : Int) + 1)) (.int .i64 ((q : Int) + 1))).run Try.prog w = _ := fun w => run_make34 (q + 1) (by omega) w
        have hsD : (W.drewN nq).heap.size = W.heap.size := rfl
        generalize W.drewN nq = Wd at *
        have b6 := below_new2 Wd (.cells (falses (q + 1)) 4) (.cells #[.slice (some ⟨W.heap.size, 0, none⟩) (q + 1) (q + 1)] 34)
        have hu := (RowB.made Wd (q + 1)).below (below_new1 _ (.cells #[.slice (some ⟨W.heap.size, 0, none⟩) (q + 1) (q + 1)] 34)) (by simp)
        have kU := Blk.new2 Wd (.cells (falses (q + 1)) 4) 34 #[.slice (some ⟨W.heap.size, 0, none⟩) (q + 1) (q + 1)]
        have hC2 := hC1.below b6
        have bW := below_end bd bd.size b6
        have cG := hC2.kG.cell 0
        simp at cG
        have hs6 : Wd.heap.size < ((Wd.alloc (.cells (falses (q + 1)) 4)).alloc (.cells #[.slice (some ⟨W.heap.size, 0, none⟩) (q + 1) (q + 1)] 34)).heap.size ∧ Wd.heap.size + 1 < ((Wd.alloc (.cells (falses (q + 1)) 4)).alloc (.cells #[.slice (some ⟨W.heap.size, 0, none⟩) (q + 1) (q + 1)] 34)).heap.size := by simp; omega
        rw [hsD] at hu kU hs6
        clear hC hC1 bd b6 xd
        have xa := around_any (some ⟨K.g, 0, none⟩) (v : Int) ((Wd.alloc (.cells (falses (q + 1)) 4)).alloc (.cells #[.slice (some ⟨W.heap.size, 0, none⟩) (q + 1) (q + 1)] 34))
        gi_wp2_with fail
        refine ⟨trivial, (CallsIn.inRound l (callsIn_wide.2 xa)).mono ?_⟩
        rintro e W' ⟨rfl, rfl⟩
        clear mk2 xa cG
        generalize (Wd.alloc (.cells (falses (q + 1)) 4)).alloc (.cells #[.slice (some ⟨W.heap.size, 0, none⟩) (q + 1) (q + 1)] 34) = W6 at *
        obtain ⟨gu, hgu⟩ : ∃ x, W.heap.size = x := ⟨_, rfl⟩
        obtain ⟨Bu, hBu⟩ : ∃ x, W.heap.size + 1 = x := ⟨_, rfl⟩
        rw [hBu, hgu] at kU
        rw [hgu] at hu
        rw [hgu] at hs6
        rw [hBu, hgu]
        have hguW : W.heap.size ≤ gu ∧ gu < Bu ∧ Bu < W6.heap.size := by omega
        clear hgu hBu hsD hs6
        have b7 := below_new2 W6 (.cells #[.pointer (some ⟨K.g, 0, none⟩)] 27) (.cells #[.int .i64 (v : Int)] 3)
        have hA1 := (Blk.new W6 27 #[.pointer (some ⟨K.g, 0, none⟩)]).alloc (.cells #[.int .i64 (v : Int)] 3)
        have hA2 := Blk.new2 W6 (.cells #[.pointer (some ⟨K.g, 0, none⟩)] 27) 3 #[.int .i64 (v : Int)]
        have hC7 := hC2.below b7
        have hu7 := hu.below b7 (by omega)
        have kU7 := kU.below b7 (by omega)
        have bW7 := below_end bW bW.size b7
        have hs7 : W6.heap.size < ((W6.alloc (.cells #[.pointer (some ⟨K.g, 0, none⟩)] 27)).alloc (.cells #[.int .i64 (v : Int)] 3)).heap.size ∧ W6.heap.size + 1 < ((W6.alloc (.cells #[.pointer (some ⟨K.g, 0, none⟩)] 27)).alloc (.cells #[.int .i64 (v : Int)] 3)).heap.size := by simp; omega
        clear hC2 hu kU bW b7
        gi_wp2_with fail
        generalize (W6.alloc (.cells #[.pointer (some ⟨K.g, 0, none⟩)] 27)).alloc (.cells #[.int .i64 (v : Int)] 3) = W7 at *
        obtain ⟨BA, hBA⟩ : ∃ x, W6.heap.size = x := ⟨_, rfl⟩
        rw [hBA] at hA1 hA2 hs7 hguW
        rw [hBA]
        clear hBA
        have hxr := around6_stops BA (BA + 1) v n K E hvn W7 hA1 hA2 hC7.g
        have hq7 := hC7.q.size
        have hbs7 := bW7.size
        have hr7 : W7.heap[l]? = some (.loop r) := (bW7.block l hlW).trans hr
        have hKF : KeepsFrom W5.heap.size W W7 := ⟨bW7.size, fun k o _ hk _ => (bW7.block k (Array.getElem?_eq_some_iff.1 hk).1).trans hk⟩
        have hKB : KpB [BS, go] W W7 := fun k hk => bW7.block k (by simp at hk; rcases hk with rfl | rfl <;> omega)
        have HNE := Lib.hid (show gu ≠ gc ∧ gu ≠ Bc ∧ gu ≠ BG ∧ gu ≠ BS ∧ gu ≠ go ∧ gu < BA ∧ gu < W7.heap.size ∧ Bu ≠ gc ∧ (∀ k ∈ K.l, k ≠ gu) ∧ w.heap.size ≤ gu from ⟨by omega, by omega, by omega, by omega, by omega, by omega, by omega, by omega, fun k hk => by have := hGL.out k hk; omega, by omega⟩)
        clear hA1 hA2 hr
        refine wpIn_rangeFunc_ownN (F := Fence.wide.inRound l) (n := 7) (l₀ := l) (r₀ := r) rfl hr7 (by decide) (gf := 65) (lb := #[.pointer (some ⟨BA, 0, none⟩), .pointer (some ⟨BA + 1, 0, none⟩)]) rfl trivial (enters_of Try.func65 (by kernel_rfl) rfl) (hxr.inRound l) (fun h k => h.trans k)
          (fun W' k o o' hk _ _ _ => ⟨by simp, fun j hj => World.putObj_heap_other (by
            have h1 := hGL.out j
            simp at hj
            rcases hj with rfl | rfl | hj
            · omega
            · omega
            · have := h1 hj; omega)⟩) (Below.refl _ _) (fun _ => rfl)
          (fun p2 W' => (CI w gc Bc BG n K E col W' ∧ RowB W' gu (q + 1) (fun c => p2.any fun x : EO n => decide (col x.1.2 = (c : Int))) ∧ Blk W' Bu 34 #[.slice (some ⟨gu, 0, none⟩) (q + 1) (q + 1)] ∧ KpB [BS, go] W W' ∧ W7.heap.size ≤ W'.heap.size) ∧ KeepsFrom W5.heap.size W W')
          (fun _ _ _ => False)
          (OwnFrom.and (fun s A A' row ⟨h1, h2, h3, h4, h5⟩ hg hr => ⟨h1.own hq7 hg hr, by obtain ⟨cs, g1, g2⟩ := h2; exact ⟨cs, Blk.own' g1 hg (fun r e => (hr r e).2), g2⟩, Blk.own' h3 hg (fun r e => (hr r e).2), fun k hk => (hg.block k (by simp at hk; rcases hk with rfl | rfl <;> omega) (fun e => by have := (hr k e.symm).1; simp at hk; rcases hk with rfl | rfl <;> omega)).trans (h4 k hk), Nat.le_trans h5 hg.size⟩) (ownFrom_keepsFrom (by omega)))
          (fun _ _ _ _ _ hs _ _ => hs)
          ⟨⟨hC7, hu7.congr (fun i hi => rfl), kU7, hKB, Nat.le_refl _⟩, hKF⟩
          (fun x a' W => a' = { tmps := #[.pointer (some ⟨K.g, 0, none⟩), .pointer (some ⟨BG, 0, none⟩), .slice none 0 0, .pointer (some ⟨Bc, 0, none⟩), u4, .slice (some ⟨go, 0, none⟩) n n, undef, .int .i64 (v : Nat), .pointer (some ⟨Bu, 0, none⟩), undef, .int .i64 (x.1.2 : Nat), undef, .pointer (some ⟨K.g, 0, none⟩), .int .i64 (n : Nat), .slice (some ⟨gc, 0, none⟩) n n, .slice (some ⟨gc, 0, none⟩) n n, .int .i64 (n : Nat), .int .i64 (n : Nat), .bool false, u19, u20, u21, u22, u23, .pointer (some ⟨K.g, 0, none⟩), .slice (some ⟨go, 0, none⟩) n n, .slice (some ⟨go, 0, none⟩) n n, .func (.func 64) #[] #[.pointer (some ⟨BS, 0, none⟩)], .int .i64 (k : Nat), .int .i64 (v : Nat), .pointer (some ⟨K.g, 0, none⟩), .int .i64 (v : Nat), .int .i64 (q : Nat), .int .i64 ((q : Int) + 1), .slice (some ⟨gu, 0, none⟩) (q + 1) (q + 1), .pointer (some ⟨K.g, 0, none⟩), .int .i64 (v : Nat), .func (.func 65) #[] #[.pointer (some ⟨BA, 0, none⟩), .pointer (some ⟨BA + 1, 0, none⟩)], .int .i64 (x.1.1 : Nat), .int .i64 (x.1.2 : Nat), undef, undef, undef, undef, undef, undef, undef, undef, undef, undef, undef, undef, undef, undef, undef, undef, undef, undef, undef, undef, undef], defers := [] })
          (fun _ _ _ _ _ _ hs _ _ => hs)
          ?assign2 ?body2 ?done2 ?stop2
        case assign2 =>
          intro l2 p2 x W' K' hI hK'
          gi_wp2
          exact hK' _ _ (KeepsFrom.refl _ _) ⟨Nat.le_refl _, fun _ _ => rfl⟩ hI rfl
        case stop2 =>
          rintro c p2 W' _ h
          exact h.elim
        case body2 =>
          rintro l2 p2 ⟨⟨xi, u⟩, hu⟩ a2 W' hl2 hr2 ⟨⟨hC, hU, kU, hB, hz⟩, hK⟩ rfl hpl2
          have hun : u < n := hu
          have hun2 : (u : Int) < (n : Int) := by omega
          have cc := hC.kc.cell 0
          have c1 := hC.r.cell hun
          have cu := kU.cell 0
          simp at cc cu
          obtain ⟨c, hc⟩ : ∃ c, col u = c := ⟨_, rfl⟩
          have HC := Lib.hid hc
          have HS := Lib.hid (And.intro hC (And.intro hU (And.intro kU (And.intro hB hK))))
          rw [hc] at c1
          clear hc hC hpl2 hl2 hr2
          have same : ∀ (h : ¬ (0 ≤ c ∧ c < (q : Int) + 1)), RowB W' gu (q + 1) (fun c => (p2 ++ [(⟨(xi, u), hu⟩ : EO n)]).any fun x : EO n => decide (col x.1.2 = (c : Int))) := fun h => hU.congr (fun i hi => by
            rw [List.any_append]
            have : decide (col u = (i : Int)) = false := decide_eq_false (by rw [HC.out]; omega)
            simp [this])
          have SAME := Lib.hid same
          clear same
          by_cases h0 : 0 ≤ c
          · by_cases h1 : c < (q : Int) + 1
            · obtain ⟨cn, rfl⟩ : ∃ cn : Nat, c = cn := ⟨c.toNat, by omega⟩
              have hcn : cn < q + 1 := by omega
              have c3 := hU.cell hcn
              have c4 := hU.frozen cn
              clear hU kU hB hK
              gi_wp2_with fail
              obtain ⟨hC, hU, kU, hB, hK⟩ := HS.out
              obtain ⟨n1, n2, n3, n4, n5, n6, n7, n8, n9, n10⟩ := HNE.out
              refine ⟨(KeepsOthers.setCell _ _ _).from _, ⟨by simp, fun j hj => Below.heap_setCell _ _ _ j (by
                show j ≠ gu
                simp at hj
                rcases hj with rfl | rfl | hj
                · omega
                · omega
                · exact n9 j hj)⟩, ⟨⟨hC.far _ (Ne.symm n1) (Ne.symm n2) (Ne.symm n3) n9 n10, (hU.set_ cn true).congr (fun i hi => ?_), kU.far (p := ⟨gu, cn, none⟩) (by show Bu ≠ gu; omega) _, fun j hj => (Below.heap_setCell _ _ _ j (by
                show j ≠ gu
                simp at hj
                rcases hj with rfl | rfl
                · exact Ne.symm n4
                · exact Ne.symm n5)).trans (hB j hj), by simpa using hz⟩, hK.trans ((KeepsOthers.setCell _ _ _).from _)⟩⟩
              rw [List.any_append]
              by_cases hic : i = cn
              · subst hic
                rw [if_pos rfl]
                have : decide (col u = (i : Int)) = true := decide_eq_true HC.out
                simp [this]
              · rw [if_neg hic]
                have : decide (col u = (i : Int)) = false := decide_eq_false (by rw [HC.out]; omega)
                simp [this]
            · have h1' : (q : Int) + 1 ≤ c := by omega
              clear hU kU hB hK
              gi_wp2_with fail
              obtain ⟨hC, hU, kU, hB, hK⟩ := HS.out
              exact ⟨KeepsFrom.refl _ _, ⟨Nat.le_refl _, fun _ _ => rfl⟩, ⟨⟨hC, SAME.out (by omega), kU, hB, hz⟩, hK⟩⟩
          · clear hU kU hB hK
            gi_wp2_with fail
            obtain ⟨hC, hU, kU, hB, hK⟩ := HS.out
            exact ⟨KeepsFrom.refl _ _, ⟨Nat.le_refl _, fun _ _ => rfl⟩, ⟨⟨hC, SAME.out (by omega), kU, hB, hz⟩, hK⟩⟩
        case done2 =>
          rintro ys W8 hys ⟨⟨hC, hU, kU, hB, hz⟩, hK⟩
          have cc := hC.kc.cell 0
          have cu := kU.cell 0
          simp at cc cu
          have hmem : ∀ c : Nat, (ys.any fun x : EO n => decide (col x.1.2 = (c : Int))) = true ↔ (c : Int) ∈ (oth E v E.length).map col := fun c => by
            rw [← arL_oth, ← hys, List.map_map, List.map_map]
            simp only [List.any_eq_true, decide_eq_true_eq, List.mem_map, Function.comp]
          have hsp := mex_spec ((oth E v E.length).map col)
          have hmq : ((oth E v E.length).map col).length = q := by
            rw [List.length_map]
            unfold oth
            rw [List.length_map]
            exact HQ.out
          rw [hmq] at hsp
          have HCS := Lib.hid (show colF E ((pre ++ [k]).map fun k => (ord E n).getD k 0) = fun u => if u = v then ((mex ((oth E v E.length).map col) : Nat) : Int) else col u from by
            rw [List.map_append, List.map_cons, List.map_nil, HV.out, colF_snoc, HCOL.out]
            rfl)
          obtain ⟨x, hx⟩ : ∃ x, mex ((oth E v E.length).map col) = x := ⟨_, rfl⟩
          rw [hx] at hsp HCS
          obtain ⟨hs1, hs2, hs3⟩ := hsp
          have hfx : (ys.any fun z : EO n => decide (col z.1.2 = (x : Int))) = false := by
            cases hh : (ys.any fun z : EO n => decide (col z.1.2 = (x : Int))) with
            | false => rfl
            | true => exact absurd ((hmem x).1 hh) hs2
          have hfm : ∀ i, i < x → (ys.any fun z : EO n => decide (col z.1.2 = (i : Int))) = true := fun i hi => (hmem i).2 (hs3 i hi)
          have XI := Lib.hid (fun (W : World) (b : Below W8.heap.size W8 W) => index_ok W gu (q + 1) _ x (hU.below b hU.lt) (by omega) hfx hfm (by omega))
          have hvr := hC.r.cell hvn
          have hvf := hC.r.frozen v
          have HS := Lib.hid (And.intro hC (And.intro hB hK))
          have hvn2 : (v : Int) < (n : Int) := by omega
          clear hmem hmq hx hs2 hs3 hfx hfm hU kU hC hB hK hys
          have hmix : Try.prog.follows .mixedOrders = true := by kernel_rfl
          gi_wp2_with fail
          have FIN := Lib.hid (show KeepsFrom W5.heap.size W (W8.setCell ⟨gc, v, none⟩ (.int .i64 (x : Nat))).drew ∧ KpB [BS, go] W (W8.setCell ⟨gc, v, none⟩ (.int .i64 (x : Nat))).drew ∧ (CI w gc Bc BG n K E (colF E ((pre ++ [k]).map fun k => (ord E n).getD k 0)) (W8.setCell ⟨gc, v, none⟩ (.int .i64 (x : Nat))).drew ∧ W5.heap.size ≤ (W8.setCell ⟨gc, v, none⟩ (.int .i64 (x : Nat))).drew.heap.size) from by
            obtain ⟨hC, hB, hK⟩ := HS.out
            refine ⟨hK.trans (((KeepsOthers.setCell _ _ _).trans (KeepsOthers.drew _)).from _), fun j hj => (Below.heap_setCell W8 ⟨gc, v, none⟩ _ j (by
              show j ≠ gc
              simp at hj
              rcases hj with rfl | rfl <;> omega)).trans (hB j hj), ?_, by show _ ≤ (W8.setCell _ _).heap.size; simp; omega⟩
            rw [HCS.out]
            have h1 : CI w gc Bc BG n K E (fun u => if u = v then ((x : Nat) : Int) else col u) (W8.setCell ⟨gc, v, none⟩ (.int .i64 (x : Nat))) :=
              ⟨hC.r.set_ v ((x : Nat) : Int), hC.kc.far (p := ⟨gc, v, none⟩) (Ne.symm hne.1) _, hC.kG.far (p := ⟨gc, v, none⟩) (by show BG ≠ gc; omega) _, hC.g.heap (fun j hj => Below.heap_setCell _ _ _ j (by have := hGL.out j hj; show j ≠ gc; omega)) (by simp), hC.q.setCell (p := ⟨gc, v, none⟩) hne.2.2.2.1 _⟩
            exact h1.below (bdrew (Below.refl _ _)))
          have ccd : W8.drew.cell? ⟨Bc, 0, none⟩ = some (.slice (some ⟨gc, 0, none⟩) n n) := cc
          have cud : W8.drew.cell? ⟨Bu, 0, none⟩ = some (.slice (some ⟨gu, 0, none⟩) (q + 1) (q + 1)) := cu
          gi_region_with_o (refine ⟨trivial, (CallsIn.inRound l (callsIn_wide.2 (XI.out _ (by repeat (first | (with_reducible exact Below.refl _ _) | (with_reducible apply bdrew)))))).mono ?_⟩; rintro e w' ⟨rfl, rfl⟩)
          all_goals
            gi_wp2_with fail
            exact FIN.out
end Go.Proofs.Ytoiafopndlnknaa
