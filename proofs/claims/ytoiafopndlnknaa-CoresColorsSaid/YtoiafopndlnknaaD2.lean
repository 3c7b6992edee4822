/-
  removals.
-/
import Derived.Test.YtoiafopndlnknaaD1
set_option linter.unusedVariables false
set_option linter.unusedSimpArgs false
namespace Go.Proofs.Ytoiafopndlnknaa
open Go.RowKit Go.Shelf

attribute [local go_sem] Oper.semAt_some

/-- degrees, less one for each of a list -/
def lessD (D : Nat → Nat) (us : List Nat) : Nat → Nat := fun u => D u - us.count u
def setN (D : Nat → Nat) (u d : Nat) : Nat → Nat := fun x => if x = u then d else D x
theorem lessD_snoc (D : Nat → Nat) (us : List Nat) (u : Nat) : lessD D (us ++ [u]) = setN (lessD D us) u (lessD D us u - 1) := by
  funext x
  unfold lessD setN
  rw [List.count_append]
  by_cases h : x = u
  · subst h; rw [if_pos rfl]; simp; omega
  · rw [if_neg h]
    have : ([u] : List Nat).count x = 0 := List.count_eq_zero.2 (by simpa using h)
    rw [this]
    rfl
theorem setN_self (D : Nat → Nat) (u : Nat) : setN D u (D u) = D := by
  funext x
  unfold setN
  by_cases h : x = u
  · subst h; rw [if_pos rfl]
  · rw [if_neg h]
theorem dvOf_set {L : Nat → Bool} {D : Nat → Nat} {u : Nat} (h : L u = true) (d : Nat) : dvOf L (setN D u d) = upd (dvOf L D) u (d : Nat) := by
  funext x
  unfold dvOf setN upd
  by_cases e : x = u
  · subst e; simp [h]
  · simp [e]
theorem BkI.lose {n low B u d : Nat} {L : Nat → Bool} {D : Nat → Nat} {mem : Nat → List Nat} (h : BkI n L D mem low B) (hu : u < n) (hl : L u = true) (hd : D u = d + 1) : d < B ∧ BkI n L (setN D u d) (upd mem d (mem d ++ [u])) (min low d) B := by
  have hB := (h.has u hu hl).1
  refine ⟨by omega, fun e he x hx => ?_, fun e he x hx hlx => ?_, fun e he => ?_, fun x hx hlx => ?_, fun x hx hlx => ?_⟩
  · unfold upd at hx
    split at hx
    · rename_i q; subst q
      rcases List.mem_append.1 hx with g | g
      · exact h.lt e he x g
      · simp at g; omega
    · exact h.lt e he x hx
  · unfold setN
    by_cases e1 : x = u
    · subst e1
      rw [if_pos rfl]
      unfold upd at hx
      split at hx
      · omega
      · have := h.le e he x hx hlx; omega
    · rw [if_neg e1]
      unfold upd at hx
      split at hx
      · rename_i q; subst q
        rcases List.mem_append.1 hx with g | g
        · exact h.le e he x g hlx
        · simp at g; exact absurd g e1
      · exact h.le e he x hx hlx
  · unfold upd
    split
    · rename_i q; subst q
      refine List.nodup_append.2 ⟨h.nd e he, by simp, fun a ha c hc => ?_⟩
      simp at hc
      subst hc
      intro g
      subst g
      have := h.le e he a ha hl
      omega
    · exact h.nd e he
  · unfold setN upd
    by_cases e1 : x = u
    · subst e1
      rw [if_pos rfl]
      exact ⟨by omega, by simp⟩
    · rw [if_neg e1]
      obtain ⟨h1, h2⟩ := h.has x hx hlx
      refine ⟨h1, ?_⟩
      split
      · rename_i q; rw [q] at h2; exact List.mem_append_left _ h2
      · exact h2
  · have := h.low x hx hlx
    unfold setN
    split <;> omega
theorem BkI.congr {n low B : Nat} {L : Nat → Bool} {D D' : Nat → Nat} {mem : Nat → List Nat} (h : BkI n L D mem low B) (he : ∀ u, u < n → L u = true → D u = D' u) : BkI n L D' mem low B :=
  ⟨h.lt, fun d hd u hu hl => by rw [← he u (h.lt d hd u hu) hl]; exact h.le d hd u hu hl, h.nd, fun u hu hl => by rw [← he u hu hl]; exact h.has u hu hl, fun u hu hl => by rw [← he u hu hl]; exact h.low u hu hl⟩
theorem Bk.deg_congr {w : World} {b gd gm n B low : Nat} {L : Nat → Bool} {D D' : Nat → Nat} {mem : Nat → List Nat} {X : Nat → Prop} (h : Bk w b gd gm n B (dvOf L D) mem low X) (he : ∀ u, u < n → L u = true → D u = D' u) : Bk w b gd gm n B (dvOf L D') mem low X :=
  ⟨h.box, h.deg.congr (fun u hu => by
    unfold dvOf
    split
    · rw [he u hu (by assumption)]
    · rfl), h.ms, h.nx, h.xs, h.nb⟩
/-- the start: all are left -/
theorem fit_start {n B : Nat} {D : Nat → Nat} (h : ∀ u, u < n → D u < B) : BkI n allL D (fit D n) 0 B :=
  ⟨fun d hd u hu => by have := (List.mem_filter.1 hu).1; simpa using this, fun d hd u hu _ => by have := (List.mem_filter.1 hu).2; simp at this; omega, fun d hd => List.nodup_range.sublist List.filter_sublist, fun u hu _ => ⟨h u hu, List.mem_filter.2 ⟨by simpa using hu, by simp⟩⟩, fun u _ _ => Nat.zero_le _⟩
/-- marks of ranges that are over -/
def mks (rs : List Nat) : List Deferred := rs.map fun r => { target := .collected r, args := #[] }
def Mk (B : Nat) (rs : List Nat) (w : World) : Prop := rs.Nodup ∧ ∀ r ∈ rs, B ≤ r ∧ w.heap[r]? = some (.deferred (some []))
theorem Mk.keeps {B : Nat} {rs : List Nat} {w w' : World} (h : Mk B rs w) (hk : KeepsOthers w w') : Mk B rs w' := ⟨h.1, fun r hr => ⟨(h.2 r hr).1, hk.same r _ (h.2 r hr).2 rfl⟩⟩
theorem Mk.lt {B : Nat} {rs : List Nat} {w : World} (h : Mk B rs w) : ∀ r ∈ rs, r < w.heap.size := fun r hr => (Array.getElem?_eq_some_iff.1 (h.2 r hr).2).1
theorem Mk.below {B : Nat} {rs : List Nat} {w w' : World} (h : Mk B rs w) (hb : Below w.heap.size w w') : Mk B rs w' := ⟨h.1, fun r hr => ⟨(h.2 r hr).1, (hb.block r (h.lt r hr)).trans (h.2 r hr).2⟩⟩
theorem leaves_marks {P : Program} {n : Nat} {fn : Func} {tmps : Array Value} {R : Ending → World → Prop} {v : Value} {B : Nat} : ∀ (rs : List Nat) (w : World), Mk B rs w → (∀ w', Below B w w' → (results fn tmps).run P w' = .ok v w' ∧ R (.returned v) w') → LeavesInM Fence.wide n P fn tmps R (mks rs) .returning w
  | [], w, _, h => by
    obtain ⟨h1, h2⟩ := h w (Below.refl _ _)
    exact ⟨v, h1, h2⟩
  | r :: rs, w, hm, h => by
    obtain ⟨h1, h2⟩ := hm
    obtain ⟨hB, hK⟩ := h2 r (by simp)
    have hn := List.nodup_cons.1 h1
    refine ⟨by simp, .inl ⟨r, w.putObj r (.deferred none), rfl, run_takeDeferred hK, leaves_marks rs _ ⟨hn.2, fun r' hr' => ?_⟩ (fun w' hb => h w' ((below_put _ hB).trans hb))⟩⟩
    obtain ⟨g1, g2⟩ := h2 r' (by simp [hr'])
    exact ⟨g1, (World.putObj_heap_other (by intro e; apply hn.1; first | (rw [← e]; exact hr') | (rw [e]; exact hr'))).trans g2⟩
/-- what an iterator that writes wants kept: cells of its own, and some blocks; and what is no cells -/
def Kc (l : List Nat) (B m : Nat) (W W' : World) : Prop := W.heap.size ≤ W'.heap.size ∧ (∀ k o, (k ∈ l ∨ B ≤ k) → W.heap[k]? = some o → o.isCells = true → W'.heap[k]? = some o) ∧ ∀ k o, m ≤ k → W.heap[k]? = some o → o.isCells = false → W'.heap[k]? = some o
theorem Kc.trans {l : List Nat} {B m : Nat} {X Y Z : World} (h : Kc l B m X Y) (k : Kc l B m Y Z) : Kc l B m X Z := ⟨Nat.le_trans h.1 k.1, fun i o hi ho hc => k.2.1 i o hi (h.2.1 i o hi ho hc) hc, fun i o hi ho hc => k.2.2 i o hi (h.2.2 i o hi ho hc) hc⟩
theorem Kc.put {l : List Nat} {B m k : Nat} {W : World} {o : Obj} (o' : Obj) (hm : k < m) (h : W.heap[k]? = some o) (hc : o.isCells = false) : Kc l B m W (W.putObj k o') :=
  ⟨by simp, fun i o2 _ h2 hc2 => (World.putObj_heap_other (fun e => by rw [e, h] at h2; cases h2; rw [hc] at hc2; cases hc2)).trans h2, fun i o2 hi h2 _ => (World.putObj_heap_other (by omega)).trans h2⟩
theorem Kc.blk {l : List Nat} {B m k : Nat} {W W' : World} {t : TypeId} {cs : Array Value} (h : Kc l B m W W') (hb : Blk W k t cs) (hk : k ∈ l ∨ B ≤ k) : Blk W' k t cs := h.2.1 k _ hk hb rfl
theorem Gr.kept {w w' : World} {K : GB} {n : Nat} {E : Es} (h : Gr w K n E) (hk : ∀ k o, k ∈ K.l → w.heap[k]? = some o → o.isCells = true → w'.heap[k]? = some o) (hs : w.heap.size ≤ w'.heap.size) : Gr w' K n E := by
  obtain ⟨A, c, M, h1, h2⟩ := h.blk
  obtain ⟨L, ⟨cs, l1, l2⟩, l3⟩ := h.list
  obtain ⟨cs2, s1, s2⟩ := h.start
  refine ⟨h.fine, ⟨A, c, M, hk _ _ (by simp [GB.l]) h1 rfl, h2⟩, fun i hi => ?_, ⟨cs2, hk _ _ (by simp [GB.l]) s1 rfl, s2⟩, ⟨L, ⟨cs, hk _ _ (by simp [GB.l]) l1 rfl, l2⟩, l3⟩, Nat.lt_of_lt_of_le h.ltE hs⟩
  obtain ⟨g1, g2, W, g3, g4⟩ := h.es i hi
  obtain ⟨o, ho, hc⟩ := cells_of_cell g1
  have e : w'.heap[K.ge]? = w.heap[K.ge]? := (hk K.ge o (by simp [GB.l]) ho hc).trans ho.symm
  exact ⟨(cell_heap e).trans g1, (cell_heap e).trans g2, W, (cell_heap e).trans g3, g4⟩
/-- what removals hands over -/
abbrev VD (n : Nat) := { x : Nat × Nat // x.1 < n ∧ x.2 ≤ 20000 }
/-- what holds between two losses -/
structure Inn (b gd gm n B Bg Bb B1 : Nat) (K : GB) (E : Es) (L : Nat → Bool) (X : Nat → Prop) (J1 : World → Prop) (rs : List Nat) (D : Nat → Nat) (W : World) : Prop where
  ex : ∃ mem lo, Bk W b gd gm n B (dvOf L D) mem lo X ∧ BkI n L D mem lo B
  j : J1 W
  g : Gr W K n E
  bg : Blk W Bg 27 #[.pointer (some ⟨K.g, 0, none⟩)]
  bb : Blk W Bb 93 #[.pointer (some ⟨b, 0, none⟩)]
  mrk : Mk B1 rs W
theorem Inn.own {b gd gm n B Bg Bb B1 B5 : Nat} {K : GB} {E : Es} {L : Nat → Bool} {X : Nat → Prop} {J1 : World → Prop} {rs : List Nat} {D : Nat → Nat} {W W' : World} {row : Option Nat} (h : Inn b gd gm n B Bg Bb B1 K E L X J1 rs D W)
    (hJ : ∀ A A', J1 A → B1 ≤ A.heap.size → Below B1 A A' → J1 A') (h1 : B1 ≤ W.heap.size) (h5 : B1 ≤ B5) (hrs : ∀ r ∈ rs, r < B5) (hg : W.grownBy W' row) (hr : ∀ r, row = some r → B5 ≤ r ∧ ∃ o : Obj, W.heap[r]? = some o ∧ o.isCells = false) : Inn b gd gm n B Bg Bb B1 K E L X J1 rs D W' := by
  have keep : ∀ (k : Nat) (o : Obj), W.heap[k]? = some o → o.isCells = true → W'.heap[k]? = some o := fun k o ho hc => (hg.block k (Array.getElem?_eq_some_iff.1 ho).1 (fun e => by
    obtain ⟨_, o2, h2, hc2⟩ := hr k e.symm
    rw [ho] at h2
    cases h2
    rw [hc] at hc2
    cases hc2)).trans ho
  obtain ⟨mem, lo, hb, hi⟩ := h.ex
  exact ⟨⟨mem, lo, hb.heap (fun k cs t _ hk => keep k _ hk rfl) hg.size, hi⟩, hJ W W' h.j h1 ⟨hg.os, hg.tape, hg.output, hg.size, fun k hk => hg.block k (by omega) (fun e => by have := (hr k e.symm).1; omega)⟩, h.g.kept (fun k o _ ho hc => keep k o ho hc) hg.size, keep _ _ h.bg rfl, keep _ _ h.bb rfl, h.mrk.1, fun r hrr => ⟨(h.mrk.2 r hrr).1, (hg.block r (h.mrk.lt r hrr) (fun e => by have := (hr r e.symm).1; have := hrs r hrr; omega)).trans (h.mrk.2 r hrr).2⟩⟩
set_option maxRecDepth 100000 in
set_option maxHeartbeats 2500000 in
theorem removals8_in (l Bg n B0 : Nat) (K : GB) (E : Es) (J : List (Nat × Nat) → World → Prop) (W : World) (hB0 : B0 ≤ W.heap.size)
    (hJa : ∀ s A A', J s A → W.heap.size ≤ A.heap.size → Below W.heap.size A A' → J s A')
    (hY : ∀ pre x W1, x.1 < n → x.2 ≤ 20000 → J pre W1 → pre.length < n → YieldAt Fence.wide 7 Try.prog l #[.int .i64 (x.1 : Nat), .int .i64 (x.2 : Nat)] W1 fun e W' => e = .returned (.bool true) ∧ J (pre ++ [x]) W' ∧ Kc (Bg :: K.l) B0 W.heap.size W1 W')
    (hBg : Blk W Bg 27 #[.pointer (some ⟨K.g, 0, none⟩)]) (hG : Gr W K n E) (h0 : J [] W) :
    CallsIn Fence.wide 8 Try.prog 53 #[.func (.yield l) #[] #[], .pointer (some ⟨Bg, 0, none⟩)] W fun e W' => (∃ v, e = .returned v) ∧ ∃ ys, ys = peel E n ∧ J ys W' := by
  have cg := hBg.cell 0
  simp at cg
  have xs := sorted_ok hG
  have hn := hG.fine.1
  have hm := hG.fine.2.1
  have hGL := hG.lt
  have hBgL := hBg.lt
  refine callsIn_of_wp_marks (F := Fence.wide) (n := 8) Try.func53 rfl trivial ?_ rfl
  simp only [Try.ntmps53, List.size_toArray, List.length_cons, List.length_nil, Nat.reduceAdd, Nat.reduceSub, Array.replicate_succ, Array.replicate_zero, List.push_toArray, List.append_toArray, List.nil_append, List.cons_append]
  gi_wp2_with fail
  refine ⟨trivial, (callsIn_wide.2 xs).mono ?_⟩
  rintro e W1 ⟨b, gd, gm, B, rfl, hB, hDB, q1⟩
  have b1 := below_new1 W1 (.cells #[.pointer (some ⟨b, 0, none⟩)] 93)
  have hBb := Blk.new W1 93 #[.pointer (some ⟨b, 0, none⟩)]
  have hB2 := hB.guard b1
  have q2 := below_end q1 q1.size b1
  have hBg2 := (hBg.below q2 hBg.lt)
  have hG2 := hG.below q2
  have xn := n_ok hG2
  have c1 := hBg2.cell 0
  simp at c1
  have HX := Lib.hid (show (∀ k, k < W.heap.size → (fun k => k < W.heap.size ∨ W1.heap.size ≤ k ∧ k < (W1.alloc (.cells #[.pointer (some ⟨b, 0, none⟩)] 93)).heap.size) k) ∧ (fun k => k < W.heap.size ∨ W1.heap.size ≤ k ∧ k < (W1.alloc (.cells #[.pointer (some ⟨b, 0, none⟩)] 93)).heap.size) W1.heap.size ∧ W.heap.size ≤ W1.heap.size from ⟨fun k hk => .inl hk, .inr ⟨Nat.le_refl _, by simp⟩, q1.size⟩)
  obtain ⟨X, hX⟩ : ∃ X : Nat → Prop, (fun k => k < W.heap.size ∨ W1.heap.size ≤ k ∧ k < (W1.alloc (.cells #[.pointer (some ⟨b, 0, none⟩)] 93)).heap.size) = X := ⟨_, rfl⟩
  rw [hX] at hB2 HX
  have hJ := hJa _ _ _ h0 (Nat.le_refl _) q2
  have hI0 := fit_start (n := n) (D := fun u => cnt E u E.length) hDB
  have hBF : Bk (W1.alloc (.cells #[.pointer (some ⟨b, 0, none⟩)] 93)) b gd gm n B (dvOf allL (dg E allL)) (fit (fun u => cnt E u E.length) n) 0 X := ⟨hB2.box, hB2.deg.congr (fun u hu => by unfold dvOf allL; rw [if_pos rfl]; exact (congrArg (fun x : Nat => (x : Int)) (dg_all E u)).symm), hB2.ms, hB2.nx, hB2.xs, hB2.nb⟩
  have hIF := Lib.hid (hI0.congr (D' := dg E allL) (fun u _ _ => (dg_all E u).symm))
  have hz2 := q2.size
  clear hX hB hDB q1 b1 xs cg hBg hG hB2 hI0 h0
  gi_wp2_with fail
  generalize hW2 : W1.alloc (.cells #[.pointer (some ⟨b, 0, none⟩)] 93) = W2 at *
  obtain ⟨Bb, hBbe⟩ : ∃ x, W1.heap.size = x := ⟨_, rfl⟩
  rw [hBbe] at hBb HX ⊢
  clear hW2 hBbe
  refine ⟨trivial, (callsIn_wide.2 xn).mono ?_⟩
  rintro e w' ⟨rfl, rfl⟩
  clear xn c1
  gi_wp2_with fail
  have HGL := Lib.hid (show (∀ k ∈ K.l, k < W.heap.size) ∧ Bg < W.heap.size from ⟨hGL, hBgL⟩)
  clear hGL hBgL
  refine wpIn_loop_ghost_k (fun m a wr => ∃ (i : Nat) (rs : List Nat) (mem : Nat → List Nat) (lo : Nat) (u4 u5 u7 u13 u14 u15 u16 u17 u18 u19 u20 u21 u22 u23 u24 u25 u26 u27 u28 u29 u30 u31 u32 u33 u34 u35 u36 : Value), m = n - i ∧ i ≤ n ∧ J (peelN E n i).2 wr ∧ W.heap.size ≤ wr.heap.size ∧ Bk wr b gd gm n B (dvOf (peelN E n i).1 (dg E (peelN E n i).1)) mem lo X ∧ Hid (BkI n (peelN E n i).1 (dg E (peelN E n i).1) mem lo B) ∧ Gr wr K n E ∧ Blk wr Bg 27 #[.pointer (some ⟨K.g, 0, none⟩)] ∧ Blk wr Bb 93 #[.pointer (some ⟨b, 0, none⟩)] ∧ Hid (Mk W.heap.size rs wr) ∧ a = { tmps := #[.func (.yield l) #[] #[], .pointer (some ⟨Bg, 0, none⟩), undef, .pointer (some ⟨Bb, 0, none⟩), u4, u5, undef, u7, .pointer (some ⟨K.g, 0, none⟩), .pointer (some ⟨b, 0, none⟩), .pointer (some ⟨K.g, 0, none⟩), .int .i64 (n : Int), .int .i64 (i : Int), u13, u14, u15, u16, u17, u18, u19, u20, u21, u22, u23, u24, u25, u26, u27, u28, u29, u30, u31, u32, u33, u34, u35, u36], defers := mks rs }) n ?start ?round
  case start => exact ⟨0, [], _, 0, undef, undef, undef, undef, undef, undef, undef, undef, undef, undef, undef, undef, undef, undef, undef, undef, undef, undef, undef, undef, undef, undef, undef, undef, undef, undef, undef, rfl, Nat.zero_le _, hJ, hz2, hBF, hIF, hG2, hBg2, hBb, Lib.hid ⟨List.nodup_nil, fun r hr => by cases hr⟩, rfl⟩
  case round =>
    clear hBF hIF hG2 hBg2 hBb hJ hz2 q2
    rintro m a wr ⟨i, rs, mem, lo, u4, u5, u7, u13, u14, u15, u16, u17, u18, u19, u20, u21, u22, u23, u24, u25, u26, u27, u28, u29, u30, u31, u32, u33, u34, u35, u36, rfl, hi, hJ, hz, hB, HI, hG, hBg, hBb, HM, rfl⟩ JJ KK hJJ hKK
    have cg := hBg.cell 0
    have cb := hBb.cell 0
    simp at cg cb
    by_cases hlt : i < n
    · have hin : (i : Int) < (n : Int) := by omega
      obtain ⟨v, d, hpick, hstep⟩ := peel_step E n i hlt
      have HST := Lib.hid hstep
      have hlen := (peeled E n i hi).len
      have xt := take_ok hB HI.out ⟨v, hpick.1, hpick.2.1⟩
      have HPK := Lib.hid hpick
      clear hstep hpick
      gi_wp2_with fail
      refine ⟨trivial, (callsIn_wide.2 xt).mono ?_⟩
      rintro e W3 ⟨v', d', mem3, rfl, hlst, hdB, hB3, hI3, hT3⟩
      obtain ⟨rfl, rfl⟩ := pick_one hlst HPK.out
      have hvn := hlst.1
      have hLv := hlst.2.1
      have hd2 : d' ≤ 20000 := by rw [hlst.2.2.1]; have := dgK_le E (peelN E n i).1 v' E.length; unfold dg; omega
      have qT : Below W.heap.size wr W3 := hT3.1.below hz (fun k hk g => g (HX.out.1 k hk))
      have hJ3 := hJa _ _ _ hJ hz qT
      have hG3 := hG.heap (fun k hk => qT.block k (HGL.out.1 k hk)) qT.size
      have hBg3 := hBg.below qT HGL.out.2
      have hBb3 : Blk W3 Bb 93 #[.pointer (some ⟨b, 0, none⟩)] := (hT3.1.block Bb hBb.lt (fun g => g HX.out.2.1)).trans hBb
      have HM3 := Lib.hid (HM.out.keeps hT3.2)
      have hz3 : W.heap.size ≤ W3.heap.size := Nat.le_trans hz qT.size
      obtain ⟨fn, tm, assign, body, hy, hR⟩ := hY (peelN E n i).2 (v', d') W3 hvn hd2 hJ3 (by rw [hlen]; exact hlt)
      have HI3 := Lib.hid hI3
      have HL1 := Lib.hid (And.intro hLv hlst)
      clear xt hJ hz hB HI hG hBg hBb HM hT3 qT cg cb hI3 hlst hLv hJ3
      have cg := hBg3.cell 0
      have cb := hBb3.cell 0
      simp at cg cb
      have hv0 : ¬ (v' : Int) < 0 := by omega
      gi_wp2_with fail
      refine hR.mono ?_
      rintro e W4 ⟨rfl, hJ4, hK4⟩
      have hz4 : W.heap.size ≤ W4.heap.size := Nat.le_trans hz3 hK4.1
      have hnX : ∀ k, ¬ X k → B0 ≤ k := fun k hk => by
        rcases Nat.lt_or_ge k W.heap.size with g | g
        · exact absurd (HX.out.1 k g) hk
        · omega
      have hB4 := hB3.heap (fun k cs t hx hb => hK4.blk hb (.inr (hnX k hx))) hK4.1
      have hG4 := hG3.kept (fun k o hk ho hc => hK4.2.1 k o (.inl (by simp [hk])) ho hc) hK4.1
      have hBg4 := hK4.blk hBg3 (.inl (by simp))
      have hBb4 := hK4.blk hBb3 (.inr (by have := HX.out.2.2; omega))
      have HM4 := Lib.hid (show Mk W.heap.size rs W4 from ⟨HM3.out.1, fun r hr => ⟨(HM3.out.2 r hr).1, hK4.2.2 r _ (HM3.out.2 r hr).1 (HM3.out.2 r hr).2 rfl⟩⟩)
      clear hB3 hG3 hBg3 hBb3 HM3 hK4 hz3 hR hy cg cb
      have cg := hBg4.cell 0
      have cb := hBb4.cell 0
      simp at cg cb
      have xa := around_any (some ⟨K.g, 0, none⟩) (v' : Int) W4
      gi_wp2_with fail
      refine ⟨trivial, (callsIn_wide.2 xa).mono ?_⟩
      rintro e w' ⟨rfl, rfl⟩
      have b5 := below_new2 W4 (.cells #[.pointer (some ⟨K.g, 0, none⟩)] 27) (.cells #[.int .i64 (v' : Int)] 3)
      have hB5 := hB4.guard b5
      have hA1 := (Blk.new W4 27 #[.pointer (some ⟨K.g, 0, none⟩)]).alloc (.cells #[.int .i64 (v' : Int)] 3)
      have hA2 := Blk.new2 W4 (.cells #[.pointer (some ⟨K.g, 0, none⟩)] 27) 3 #[.int .i64 (v' : Int)]
      have hG5 := hG4.below b5
      have hBg5 := hBg4.below b5 hBg4.lt
      have hBb5 := hBb4.below b5 hBb4.lt
      have hJ5 := hJa _ _ _ hJ4 hz4 (b5.mono hz4)
      have HM5 := Lib.hid (HM4.out.below b5)
      have hz5 : W.heap.size ≤ ((W4.alloc (.cells #[.pointer (some ⟨K.g, 0, none⟩)] 27)).alloc (.cells #[.int .i64 (v' : Int)] 3)).heap.size := Nat.le_trans hz4 b5.size
      have HX5 := Lib.hid (show (∀ k, k < W.heap.size → (fun k => X k ∨ (W4.heap.size ≤ k ∧ k < ((W4.alloc (.cells #[.pointer (some ⟨K.g, 0, none⟩)] 27)).alloc (.cells #[.int .i64 (v' : Int)] 3)).heap.size)) k) ∧ (fun k => X k ∨ (W4.heap.size ≤ k ∧ k < ((W4.alloc (.cells #[.pointer (some ⟨K.g, 0, none⟩)] 27)).alloc (.cells #[.int .i64 (v' : Int)] 3)).heap.size)) Bb ∧ (fun k => X k ∨ (W4.heap.size ≤ k ∧ k < ((W4.alloc (.cells #[.pointer (some ⟨K.g, 0, none⟩)] 27)).alloc (.cells #[.int .i64 (v' : Int)] 3)).heap.size)) W4.heap.size ∧ (fun k => X k ∨ (W4.heap.size ≤ k ∧ k < ((W4.alloc (.cells #[.pointer (some ⟨K.g, 0, none⟩)] 27)).alloc (.cells #[.int .i64 (v' : Int)] 3)).heap.size)) (W4.heap.size + 1) from
        ⟨fun k hk => .inl (HX.out.1 k hk), .inl HX.out.2.1, .inr ⟨Nat.le_refl _, by simp; omega⟩, .inr ⟨by omega, by simp⟩⟩)
      have hXX : ∀ k, X k → (fun k => X k ∨ (W4.heap.size ≤ k ∧ k < ((W4.alloc (.cells #[.pointer (some ⟨K.g, 0, none⟩)] 27)).alloc (.cells #[.int .i64 (v' : Int)] 3)).heap.size)) k := fun k hk => .inl hk
      obtain ⟨X5, hX5⟩ : ∃ X5 : Nat → Prop, (fun k => X k ∨ (W4.heap.size ≤ k ∧ k < ((W4.alloc (.cells #[.pointer (some ⟨K.g, 0, none⟩)] 27)).alloc (.cells #[.int .i64 (v' : Int)] 3)).heap.size)) = X5 := ⟨_, rfl⟩
      rw [hX5] at hB5 HX5 hXX
      have hsA : W4.heap.size < ((W4.alloc (.cells #[.pointer (some ⟨K.g, 0, none⟩)] 27)).alloc (.cells #[.int .i64 (v' : Int)] 3)).heap.size ∧ W4.heap.size + 1 < ((W4.alloc (.cells #[.pointer (some ⟨K.g, 0, none⟩)] 27)).alloc (.cells #[.int .i64 (v' : Int)] 3)).heap.size := by simp; omega
      have HXX := Lib.hid hXX
      clear hX5 hB4 hG4 hBg4 hBb4 HM4 hJ4 xa cg cb hXX
      obtain ⟨BA, hBA⟩ : ∃ x, W4.heap.size = x := ⟨_, rfl⟩
      rw [hBA] at hA1 hA2 HX5 hsA ⊢
      gi_wp2_with fail
      generalize (W4.alloc (.cells #[.pointer (some ⟨K.g, 0, none⟩)] 27)).alloc (.cells #[.int .i64 (v' : Int)] 3) = W5 at *
      have xr := around7_stops BA (BA + 1) v' n K E hvn W5 hA1 hA2 hG5
      have hmem := HI3.out
      have h0' : Inn b gd gm n B Bg Bb W.heap.size K E (rem (peelN E n i).1 v') X5 (J ((peelN E n i).2 ++ [(v', d')])) rs (lessD (dg E (peelN E n i).1) []) W5 := ⟨⟨mem3, d', by rw [show lessD (dg E (peelN E n i).1) [] = dg E (peelN E n i).1 from rfl]; exact hB5, hmem⟩, hJ5, hG5, hBg5, hBb5, HM5.out⟩
      have hM5 := HM5.out.lt
      clear hB5 hG5 hBg5 hBb5 hJ5 HM5 hmem
      refine wpIn_rangeFunc_ownF (F := Fence.wide) (n := 8) rfl (by decide) (gf := 65) (lb := #[.pointer (some ⟨BA, 0, none⟩), .pointer (some ⟨BA + 1, 0, none⟩)]) rfl trivial (enters_of Try.func65 (by kernel_rfl) rfl) xr (fun h k => h.trans k)
        (fun W' k o o' hk _ _ _ => ⟨by simp, fun j hj => World.putObj_heap_other (by
          have h1 := HGL.out.1 j
          simp at hj
          rcases hj with rfl | rfl | hj
          · omega
          · omega
          · have := h1 hj; omega)⟩) (Below.refl _ _) (fun _ => rfl)
        (fun pre W' => Inn b gd gm n B Bg Bb W.heap.size K E (rem (peelN E n i).1 v') X5 (J ((peelN E n i).2 ++ [(v', d')])) rs (lessD (dg E (peelN E n i).1) (pre.map (fun x : EO n => x.1.2))) W' ∧ W5.heap.size ≤ W'.heap.size)
        (fun _ _ _ => False)
        (fun s A A' row ⟨hs, hs2⟩ hg hr => ⟨hs.own (fun A A' h1 h2 h3 => hJa _ A A' h1 h2 h3) (Nat.le_trans hz5 hs2) hz5 hM5 hg hr, Nat.le_trans hs2 hg.size⟩)
        (fun _ _ _ _ _ hs _ _ => hs)
        ⟨h0', Nat.le_refl _⟩
        (fun x : EO n => { tmps := #[.func (.yield l) #[] #[], .pointer (some ⟨Bg, 0, none⟩), undef, .pointer (some ⟨Bb, 0, none⟩), .int .i64 (v' : Nat), .int .i64 (d' : Nat), undef, .int .i64 (x.1.2 : Nat), .pointer (some ⟨K.g, 0, none⟩), .pointer (some ⟨b, 0, none⟩), .pointer (some ⟨K.g, 0, none⟩), .int .i64 (n : Nat), .int .i64 (i : Nat), .bool true, .tuple #[.int .i64 (v' : Nat), .int .i64 (d' : Nat)], .pointer (some ⟨b, 0, none⟩), .tuple #[.int .i64 (v' : Nat), .int .i64 (d' : Nat)], .int .i64 (v' : Nat), .int .i64 (d' : Nat), .int .i64 (v' : Nat), .bool (decide ((v' : Int) < 0)), .bool (decide ((v' : Int) < 0)), .func (.yield l) #[] #[], .int .i64 (v' : Nat), .int .i64 (d' : Nat), .bool true, .bool false, .bool (decide ((v' : Int) < 0)), .pointer (some ⟨K.g, 0, none⟩), .int .i64 (v' : Nat), .func (.func 65) #[] #[.pointer (some ⟨BA, 0, none⟩), .pointer (some ⟨BA + 1, 0, none⟩)], .int .i64 (x.1.1 : Nat), .int .i64 (x.1.2 : Nat), u33, u34, u35, u36], defers := [] }) ?assign ?body ?done ?stop
      case assign =>
        intro l2 x W' K' hK'
        gi_wp2
        exact hK'
      case body =>
        rintro l2 pre ⟨⟨xi, u⟩, hu⟩ W' ⟨hs, hs2⟩ hl
        obtain ⟨mem6, lo6, hB6, hI6⟩ := hs.ex
        have hu : u < n := hu
        have HDD := Lib.hid (lessD_snoc (dg E (peelN E n i).1) (pre.map (fun x : EO n => x.1.2)) u)
        have hKQ : ∀ j ∈ BA :: (BA + 1) :: K.l, X5 j := fun j hj => by
          simp at hj
          rcases hj with rfl | rfl | hj
          · exact HX5.out.2.2.1
          · exact HX5.out.2.2.2
          · exact HX5.out.1 j (HGL.out.1 j hj)
        have HKQ := Lib.hid hKQ
        have HLT := Lib.hid (fun j (hj : j ∈ BA :: (BA + 1) :: K.l) => show j < W'.heap.size from by
          simp at hj
          rcases hj with rfl | rfl | hj
          · omega
          · omega
          · have := HGL.out.1 j hj; omega)
        obtain ⟨D6, hD6⟩ : ∃ D6, lessD (dg E (peelN E n i).1) (pre.map (fun x : EO n => x.1.2)) = D6 := ⟨_, rfl⟩
        obtain ⟨L6, hL6⟩ : ∃ L6, rem (peelN E n i).1 v' = L6 := ⟨_, rfl⟩
        rw [hD6] at hB6 hI6 HDD
        rw [hL6] at hB6 hI6
        have HS := Lib.hid hs
        have HL6 := Lib.hid hL6
        have cb := hs.bb.cell 0
        simp at cb
        clear hKQ hD6 hL6
        by_cases hc : L6 u = true ∧ D6 u ≠ 0
        · obtain ⟨d6, hd6⟩ : ∃ d6, D6 u = d6 + 1 := ⟨D6 u - 1, by omega⟩
          obtain ⟨hdB6, hI7⟩ := hI6.lose hu hc.1 hd6
          have hlen6 : (mem6 d6).length ≤ 100000 := by
            have := nodup_sub (hI6.nd d6 hdB6) (m := List.range n) (fun x hx => by have := hI6.lt d6 hdB6 x hx; simpa using this)
            rw [List.length_range] at this
            omega
          have xl := lose_ok hB6 hu (show dvOf L6 D6 u = ((d6 + 1 : Nat) : Int) from by unfold dvOf; rw [if_pos hc.1, hd6]) hdB6 hlen6
          rw [← dvOf_set hc.1] at xl
          have HI7 := Lib.hid hI7
          have HD6 := Lib.hid hd6
          clear hI6 hI7 hd6 hB6 hs
          gi_wp2_with fail
          refine ⟨trivial, (CallsIn.inRound l2 (callsIn_wide.2 xl)).mono ?_⟩
          rintro e W7 ⟨rfl, hB7, hT7⟩
          gi_wp2_with fail
          have hs := HS.out
          have q7 : Below W.heap.size W' W7 := hT7.1.below (Nat.le_trans hz5 hs2) (fun k hk g => g (HX5.out.1 k hk))
          refine ⟨hT7.2, ⟨hT7.1.size, fun j hj => hT7.1.block j (HLT.out j hj) (fun g => g (HKQ.out j hj))⟩, ⟨⟨upd mem6 d6 (mem6 d6 ++ [u]), min lo6 d6, ?_, ?_⟩, hJa _ _ _ hs.j (Nat.le_trans hz5 hs2) q7, hs.g.heap (fun k hk => q7.block k (HGL.out.1 k hk)) q7.size, hs.bg.below q7 HGL.out.2, (hT7.1.block Bb hs.bb.lt (fun g => g HX5.out.2.1)).trans hs.bb, hs.mrk.keeps hT7.2⟩, Nat.le_trans hs2 hT7.1.size⟩
          · rw [List.map_append, List.map_cons, List.map_nil, HDD.out, HL6.out, HD6.out]
            exact hB7
          · rw [List.map_append, List.map_cons, List.map_nil, HDD.out, HL6.out, HD6.out]
            exact HI7.out
        · have hdv : dvOf L6 D6 u ≤ 0 := by
            unfold dvOf
            split
            · rename_i g
              have : D6 u = 0 := Classical.byContradiction fun h => hc ⟨g, h⟩
              omega
            · omega
          have xl := lose_no hB6 hu hdv
          have hcg : ∀ x, x < n → L6 x = true → D6 x = setN D6 u (D6 u - 1) x := fun x _ hx => by
            unfold setN
            split
            · rename_i e
              subst e
              have : D6 x = 0 := Classical.byContradiction fun h => hc ⟨hx, h⟩
              omega
            · rfl
          have HB7 := Lib.hid (hB6.deg_congr hcg)
          have HI7 := Lib.hid (hI6.congr hcg)
          clear hI6 hB6 hs hc hdv hcg
          gi_wp2_with fail
          refine ⟨trivial, (CallsIn.inRound l2 (callsIn_wide.2 xl)).mono ?_⟩
          rintro e W7 ⟨rfl, rfl⟩
          gi_wp2_with fail
          have hs := HS.out
          refine ⟨KeepsOthers.refl _, ⟨Nat.le_refl _, fun j hj => rfl⟩, ⟨⟨mem6, lo6, ?_, ?_⟩, hs.j, hs.g, hs.bg, hs.bb, hs.mrk⟩, hs2⟩
          · rw [List.map_append, List.map_cons, List.map_nil, HDD.out, HL6.out]
            exact HB7.out
          · rw [List.map_append, List.map_cons, List.map_nil, HDD.out, HL6.out]
            exact HI7.out
      case done =>
        rintro D ys W6 hD hys ⟨hs, hs2⟩ hK
        obtain ⟨mem6, lo6, hB6, hI6⟩ := hs.ex
        have hus : ys.map (fun x : EO n => x.1.2) = oth E v' E.length := by
          rw [← arL_oth, ← hys, List.map_map]
          rfl
        rw [hus] at hB6 hI6
        have hEE : ∀ i, i < E.length → (edge E i).1 ≠ (edge E i).2 := fun i hi => (hs.g.edge hi).2.2
        have hcg : ∀ x, x < n → rem (peelN E n i).1 v' x = true → lessD (dg E (peelN E n i).1) (oth E v' E.length) x = dg E (rem (peelN E n i).1 v') x := fun x _ hx => by
          have := dg_rem (u := x) (rem_of hx).2 HL1.out.1 hEE
          unfold lessD
          omega
        have HB7 := Lib.hid ((hB6.deg_congr hcg).less HXX.out)
        have HI7 := Lib.hid (hI6.congr hcg)
        have HS := Lib.hid hs
        have HM := Lib.hid (show Mk W.heap.size (D :: rs) W6 from ⟨List.nodup_cons.2 ⟨fun g => by have := hM5 D g; omega, hs.mrk.1⟩, fun r hr => by
          rcases List.mem_cons.1 hr with rfl | g
          · exact ⟨by omega, hK⟩
          · exact hs.mrk.2 r g⟩)
        have ei : (i : Int) + 1 = ((i + 1 : Nat) : Int) := by omega
        have HEI := Lib.hid ei
        clear hB6 hI6 hus hEE hcg hs ei hK hys
        gi_wp2_with fail
        rw [HEI.out]
        have hs := HS.out
        have hst := HST.out
        refine Handed.intro (n - (i + 1)) (by omega) (hJJ _ _ _ ⟨i + 1, D :: rs, mem6, lo6, _, _, _, _, _, _, _, _, _, _, _, _, _, _, _, _, _, _, _, _, _, _, _, _, _, _, _, rfl, by omega, by rw [hst]; exact hs.j, by omega, by rw [hst]; exact HB7.out, by rw [hst]; exact HI7, hs.g, hs.bg, hs.bb, HM, rfl⟩)
      case stop =>
        rintro D c pre W' _ _ h _
        exact h.elim
    · have ein : n = i := by omega
      subst ein
      have hin : ¬ (n : Int) < (n : Int) := by omega
      have HJ := Lib.hid hJ
      clear hB HI hG hBg hBb cg cb hJ
      gi_wp2_with fail
      exact leaves_marks rs wr HM.out (fun w' hb => ⟨results_none rfl _ _ _, ⟨_, rfl⟩, hJa _ _ _ HJ.out hz hb⟩)
end Go.Proofs.Ytoiafopndlnknaa
