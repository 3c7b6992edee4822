/-
  graph.New.
-/
import Derived.Test.YtoiafopndlnknaaB3
set_option linter.unusedVariables false
set_option linter.unusedSimpArgs false
namespace Go.Proofs.Ytoiafopndlnknaa
open Go.RowKit Go.Shelf

/-- the vertex's count behind the first i edges -/
def st1 (E : Es) (i : Nat) : Nat → Int := fun v => if v = 0 then 0 else (cnt E (v - 1) i : Nat)
theorem edge_of {n : Nat} {E : Es} (hf : Fine n E) {i : Nat} (hi : i < E.length) : (edge E i).1 < n ∧ (edge E i).2 < n ∧ (edge E i).1 ≠ (edge E i).2 := by
  apply hf.2.2
  unfold edge
  rw [List.getD_eq_getElem?_getD, List.getElem?_eq_getElem hi]
  exact List.getElem_mem hi
theorem st1_at (E : Es) (k j : Nat) : st1 E k (j + 1) = (cnt E j k : Nat) := by simp [st1]
theorem hits_iff (e : Nat × Nat) (j : Nat) : hits e j = true ↔ e.1 = j ∨ e.2 = j := by simp [hits]
theorem st1_succ (E : Es) (i j : Nat) : st1 E (i + 1) j = if j = (edge E i).1 + 1 ∨ j = (edge E i).2 + 1 then st1 E i j + 1 else st1 E i j := by
  rcases j with _ | j
  · simp [st1]
  · rw [st1_at, st1_at, cnt_succ]
    by_cases h : hits (edge E i) j = true
    · have h2 := (hits_iff _ _).1 h
      rw [if_pos h, if_pos (show j + 1 = (edge E i).1 + 1 ∨ j + 1 = (edge E i).2 + 1 from h2.imp (fun e => by rw [e]) (fun e => by rw [e]))]
      simp
    · have h2 : ¬ ((edge E i).1 = j ∨ (edge E i).2 = j) := fun g => h ((hits_iff _ _).2 g)
      rw [if_neg h, if_neg (show ¬ (j + 1 = (edge E i).1 + 1 ∨ j + 1 = (edge E i).2 + 1) by omega)]
      simp
theorem st1_le (E : Es) {i : Nat} (hi : i ≤ 20000) (j : Nat) : 0 ≤ st1 E i j ∧ st1 E i j ≤ 20000 := by
  unfold st1
  have := cnt_le E (j - 1) i
  split <;> omega
theorem und91 : Try.prog.underlying 91 = some (.array 2 3) := by kernel_rfl
theorem agg3 (w : World) : (isAgg 3).run Try.prog w = .ok false w := by kernel_rfl
theorem run_index91 (a b : Int) (w : World) : (Instr.index 91 (.agg #[.int .i64 a, .int .i64 b]) (.int .i64 0)).run Try.prog w = .ok (.int .i64 a) w ∧ (Instr.index 91 (.agg #[.int .i64 a, .int .i64 b]) (.int .i64 1)).run Try.prog w = .ok (.int .i64 b) w := by
  constructor
  · simp [Instr.index, run_underlying und91, asIntOf, part, agg3, Try.sizeOf3, Result.andThen, go_sem]
  · simp [Instr.index, run_underlying und91, asIntOf, part, agg3, Try.sizeOf3, Result.andThen, go_sem]
/-- the sums so far -/
def st2 (E : Es) (j : Nat) : Nat → Int := fun v => if v ≤ j then (off E v : Nat) else (cnt E (v - 1) E.length : Nat)
theorem st2_le (E : Es) (hE : E.length ≤ 16384) (j v : Nat) : 0 ≤ st2 E j v ∧ st2 E j v ≤ 40000 := by
  unfold st2
  have h1 := off_le E v
  have h2 := cnt_le E (v - 1) E.length
  split <;> omega
theorem st2_zero (E : Es) (v : Nat) : st1 E E.length v = st2 E 0 v := by
  unfold st1 st2
  rcases v with _ | v
  · rfl
  · rw [if_neg (by omega), if_neg (by omega)]
theorem st2_succ (E : Es) (j v : Nat) : (if v = j + 1 then st2 E j (j + 1) + st2 E j j else st2 E j v) = st2 E (j + 1) v := by
  unfold st2
  by_cases h : v = j + 1
  · subst h
    rw [if_pos rfl, if_neg (by omega), if_pos (Nat.le_refl _), if_pos (Nat.le_refl _), Nat.add_sub_cancel]
    show ((cnt E j E.length : Nat) : Int) + (off E j : Nat) = ((off E j + cnt E j E.length : Nat) : Int)
    omega
  · rw [if_neg h]
    by_cases h2 : v ≤ j
    · rw [if_pos h2, if_pos (by omega)]
    · rw [if_neg h2, if_neg (by omega)]
/-- the lists so far: i edges done, and j ends of the next -/
def BInv (E : Es) (n i j : Nat) (F L : Nat → Int) : Prop :=
  (∀ k, k < n → F k = (off E k + cnt E k i + (if 0 < j ∧ k = (edge E i).1 then 1 else 0) + (if 1 < j ∧ k = (edge E i).2 then 1 else 0) : Nat)) ∧
  (∀ k, k < n → ∀ t, t < cnt E k i → L (off E k + t) = ((inc E k E.length).getD t 0 : Nat)) ∧
  (0 < j → L (off E (edge E i).1 + cnt E (edge E i).1 i) = (i : Nat)) ∧ (1 < j → L (off E (edge E i).2 + cnt E (edge E i).2 i) = (i : Nat))
section
variable {E : Es} {n i j x : Nat} {F L : Nat → Int}
theorem BInv.start {L : Nat → Int} : BInv E n 0 0 (fun v => (off E v : Nat)) L :=
  ⟨fun k hk => by simp [cnt_zero], fun k hk t ht => by rw [cnt_zero] at ht; omega, fun h => by omega, fun h => by omega⟩
theorem hit_cnt (hi : i < E.length) (h : hits (edge E i) x = true) : cnt E x i < cnt E x E.length := by
  have h1 := cnt_succ E x i
  rw [if_pos h] at h1
  have := cnt_mono E x (show i + 1 ≤ E.length from hi)
  omega
theorem hit_inc (hi : i < E.length) (h : hits (edge E i) x = true) : (inc E x E.length).getD (cnt E x i) 0 = i := by
  obtain ⟨r, hr⟩ := inc_pre E x (show i + 1 ≤ E.length from hi)
  rw [← hr, inc_succ, if_pos h, List.getD_eq_getElem?_getD, List.append_assoc, List.getElem?_append_right (show (inc E x i).length ≤ cnt E x i from Nat.le_refl _), show cnt E x i - (inc E x i).length = 0 from Nat.sub_self _]
  rfl
theorem BInv.step0 (h : BInv E n i 0 F L) (hi : i < E.length) (hf : Fine n E) : F (edge E i).1 = (off E (edge E i).1 + cnt E (edge E i).1 i : Nat) ∧ off E (edge E i).1 + cnt E (edge E i).1 i < 2 * E.length ∧
    BInv E n i 1 (fun k => if k = (edge E i).1 then F (edge E i).1 + 1 else F k) (fun k => if k = off E (edge E i).1 + cnt E (edge E i).1 i then (i : Nat) else L k) := by
  obtain ⟨h1, h2, _, _⟩ := h
  obtain ⟨hu, hv, huv⟩ := edge_of hf hi
  have hh : hits (edge E i) (edge E i).1 = true := by simp [hits]
  have hc := hit_cnt hi hh
  have ho := off_le E ((edge E i).1 + 1)
  have ho' : off E ((edge E i).1 + 1) = off E (edge E i).1 + cnt E (edge E i).1 E.length := rfl
  have e := h1 _ hu
  rw [if_neg (by omega), if_neg (by omega)] at e
  refine ⟨by rw [e]; rfl, by omega, fun k hk => ?_, fun k hk t ht => ?_, fun _ => by simp, fun hh => by omega⟩
  · by_cases hk2 : k = (edge E i).1
    · subst hk2
      simp only [if_pos rfl]
      rw [e]
      simp
    · have := h1 k hk
      rw [if_neg (by omega), if_neg (by omega)] at this
      dsimp only
      rw [if_neg hk2, if_neg (by omega), if_neg (by omega)]
      exact this
  · have ht2 := Nat.lt_of_lt_of_le ht (cnt_mono E k (Nat.le_of_lt hi))
    dsimp only
    rw [if_neg (fun e => by
      obtain ⟨e1, e2⟩ := off_apart E ht2 hc e
      subst e1
      omega)]
    exact h2 k hk t ht
theorem BInv.step1 (h : BInv E n i 1 F L) (hi : i < E.length) (hf : Fine n E) : F (edge E i).2 = (off E (edge E i).2 + cnt E (edge E i).2 i : Nat) ∧ off E (edge E i).2 + cnt E (edge E i).2 i < 2 * E.length ∧
    BInv E n (i + 1) 0 (fun k => if k = (edge E i).2 then F (edge E i).2 + 1 else F k) (fun k => if k = off E (edge E i).2 + cnt E (edge E i).2 i then (i : Nat) else L k) := by
  obtain ⟨h1, h2, h3, _⟩ := h
  obtain ⟨hu, hv, huv⟩ := edge_of hf hi
  have hh : hits (edge E i) (edge E i).2 = true := by simp [hits]
  have hh1 : hits (edge E i) (edge E i).1 = true := by simp [hits]
  have hc := hit_cnt hi hh
  have hc1 := hit_cnt hi hh1
  have ho := off_le E ((edge E i).2 + 1)
  have ho' : off E ((edge E i).2 + 1) = off E (edge E i).2 + cnt E (edge E i).2 E.length := rfl
  have e := h1 _ hv
  rw [if_neg (by omega), if_neg (by omega)] at e
  have h3 := h3 (by omega)
  refine ⟨by rw [e]; rfl, by omega, fun k hk => ?_, fun k hk t ht => ?_, fun hh => by omega, fun hh => by omega⟩
  · have hcs := cnt_succ E k i
    simp only [Nat.lt_irrefl, false_and, if_false, Nat.add_zero, Nat.not_lt_zero]
    by_cases hk2 : k = (edge E i).2
    · subst hk2
      rw [if_pos hh] at hcs
      rw [if_pos rfl, e]
      omega
    · have h4 := h1 k hk
      rw [if_neg hk2, h4]
      by_cases hk1 : k = (edge E i).1
      · subst hk1
        rw [if_pos hh1] at hcs
        rw [if_pos ⟨by omega, rfl⟩, if_neg (by omega)]
        omega
      · rw [if_neg (fun g => by rcases (hits_iff _ _).1 g with g | g <;> omega)] at hcs
        rw [if_neg (by omega), if_neg (by omega)]
        omega
  · have hcs := cnt_succ E k i
    have htl : t < cnt E k E.length := Nat.lt_of_lt_of_le ht (cnt_mono E k hi)
    dsimp only
    by_cases hk2 : k = (edge E i).2
    · subst hk2
      rw [if_pos hh] at hcs
      by_cases ht2 : t = cnt E (edge E i).2 i
      · subst ht2
        rw [if_pos rfl, hit_inc hi hh]
      · rw [if_neg (by omega)]
        exact h2 _ hk t (by omega)
    · rw [if_neg (fun e => hk2 (off_apart E htl hc e).1)]
      by_cases hk1 : k = (edge E i).1
      · subst hk1
        rw [if_pos hh1] at hcs
        by_cases ht2 : t = cnt E (edge E i).1 i
        · subst ht2
          rw [h3, hit_inc hi hh1]
        · exact h2 _ hk t (by omega)
      · rw [if_neg (fun g => by rcases (hits_iff _ _).1 g with g | g <;> omega)] at hcs
        exact h2 _ hk t (by omega)
end
theorem gr_made {w w' : World} {gb gs gl n m c M : Nat} {A : Option Addr} {z : Nat → Nat → Int} {E : Es} {F L : Nat → Int} (hE : E.length = m) (hf : Fine n E) (ha : ArgS k3 w A m c z) (hz : ∀ i, i < m → z i 0 = ((edge E i).1 : Nat) ∧ z i 1 = ((edge E i).2 : Nat)) (hA : 0 < m → ∃ ge, A = some ⟨ge, 0, none⟩) (q : Below w.heap.size w w')
    (k1 : Blk w' gb 58 #[.pointer (some ⟨gb, 0, none⟩), .slice A m c, .slice (some ⟨gs, 0, none⟩) (n + 1) (n + 1), .slice (some ⟨gl, 0, none⟩) M M]) (rs : RowF .i64 w' gs 3 (n + 1) (fun v => (off E v : Nat))) (rl : RowF .i64 w' gl 3 M L) (hM : 2 * m = M) (hI : BInv E n m 0 F L) : ∃ K : GB, K.g = gb ∧ Gr w' K n E := by
  subst hE hM
  have ha2 := ha.below q
  obtain ⟨ge, hge, hlt⟩ : ∃ ge, (0 < E.length → A = some ⟨ge, 0, none⟩) ∧ ge < w'.heap.size := by
    rcases Nat.eq_zero_or_pos E.length with h | h
    · exact ⟨gb, fun h2 => by omega, k1.lt⟩
    · obtain ⟨ge, e⟩ := hA h
      obtain ⟨g, o, e2, hg, _⟩ := ha2.edge h
      rw [e] at e2
      cases e2
      exact ⟨ge, fun _ => e, hg⟩
  refine ⟨⟨gb, gs, gl, ge⟩, rfl, hf, ⟨A, c, _, k1, rfl, ha.1, ha.2.1, hge⟩, fun i hi => ?_, rs, ⟨L, rl, hI.2.1⟩, hlt⟩
  obtain ⟨g, o, e, hg, e0, e1, e2, f0, f1, f2⟩ := ha2.edge hi
  rw [hge (by omega)] at e
  cases e
  obtain ⟨h0, h1⟩ := hz i hi
  rw [Nat.zero_add, h0] at e0
  rw [Nat.zero_add, h1] at e1
  rw [Nat.zero_add] at e2
  exact ⟨e0, e1, _, e2, f2⟩
set_option maxRecDepth 100000 in
set_option maxHeartbeats 2500000 in
theorem build_ok (n m c : Nat) (A : Option Addr) (z : Nat → Nat → Int) (E : Es) (w : World) (hE : E.length = m) (hf : Fine n E) (ha : ArgS k3 w A m c z) (hz : ∀ i, i < m → z i 0 = ((edge E i).1 : Nat) ∧ z i 1 = ((edge E i).2 : Nat)) (hA : 0 < m → ∃ ge, A = some ⟨ge, 0, none⟩) :
    Calls Try.prog 34 #[.int .i64 (n : Int), .slice A m c] w fun e w' => ∃ K, e = .returned (.pointer (some ⟨K.g, 0, none⟩)) ∧ Gr w' K n E ∧ Below w.heap.size w w' := by
  have hn := hf.1
  have hm := hf.2.1
  rw [hE] at hm
  have hn63 := ha.2.1
  have hmc := ha.1
  obtain ⟨M, hM⟩ : ∃ M, 2 * m = M := ⟨_, rfl⟩
  have mk1 : ∀ w, (Instr.makeSlice 31 (.int .i64 ((n : Int) + 1)) (.int .i64 ((n : Int) + 1))).run Try.prog w = _ := fun w => run_make31 (n + 1) (by omega) w
  have mk2 : ∀ w, (Instr.makeSlice 31 (.int .i64 (2 * (m : Int))) (.int .i64 (2 * (m : Int)))).run Try.prog w = .ok (.slice (some ⟨w.heap.size, 0, none⟩) M M) (w.alloc (.cells (zerosK .i64 M) 3)) := fun w => by
    rw [show 2 * (m : Int) = (M : Int) by omega]
    exact run_make31 M (by omega) w
  have hw1 : IntKind.i64.wrap ((n : Int) + 1) = (n : Int) + 1 := by rw [IntKind.wrap_i64]; omega
  have hw2 : IntKind.i64.wrap (2 * (m : Int)) = 2 * (m : Int) := by rw [IntKind.wrap_i64]; omega
  go_enter Try.func34, Try.ntmps34
  go_upto_region 1 with fail
  go_region
  all_goals first
    | (obtain ⟨gs, gl, gb, W1, hgs, hgl, hgb, hW1, k0, r1, r2, q1, hd⟩ : ∃ gs gl gb W1, w.heap.size = gs ∧ w.heap.size + 1 = gl ∧ w.heap.size + 1 + 1 = gb ∧ ((((w.alloc (.cells (zerosK .i64 (n + 1)) 3)).alloc (.cells (zerosK .i64 M) 3)).alloc (.cells #[.pointer none, .slice A m c, .slice (some ⟨w.heap.size, 0, none⟩) (n + 1) (n + 1), .slice (some ⟨w.heap.size + 1, 0, none⟩) M M] 58)).drew) = W1 ∧
           Blk W1 gb 58 #[.pointer none, .slice A m c, .slice (some ⟨gs, 0, none⟩) (n + 1) (n + 1), .slice (some ⟨gl, 0, none⟩) M M] ∧ RowF .i64 W1 gs 3 (n + 1) (fun _ => 0) ∧ RowF .i64 W1 gl 3 M (fun _ => 0) ∧ Below w.heap.size w W1 ∧ (w.heap.size ≤ gs ∧ w.heap.size ≤ gl ∧ w.heap.size ≤ gb ∧ gs ≠ gl ∧ gs ≠ gb ∧ gl ≠ gb) := by
         have b1 := below_new1 w (.cells (zerosK .i64 (n + 1)) 3)
         have b2 := b1.alloc (by simp) (.cells (zerosK .i64 M) 3)
         have b3 := b2.alloc (by simp; omega) (.cells #[.pointer none, .slice A m c, .slice (some ⟨w.heap.size, 0, none⟩) (n + 1) (n + 1), .slice (some ⟨w.heap.size + 1, 0, none⟩) M M] 58)
         refine ⟨_, _, _, _, rfl, rfl, rfl, rfl, ?_, ?_, ?_, b3.drew, by omega, by omega, by omega, by omega, by omega, by omega⟩
         · have := (Blk.new ((w.alloc (.cells (zerosK .i64 (n + 1)) 3)).alloc (.cells (zerosK .i64 M) 3)) 58 #[.pointer none, .slice A m c, .slice (some ⟨w.heap.size, 0, none⟩) (n + 1) (n + 1), .slice (some ⟨w.heap.size + 1, 0, none⟩) M M]).drew
           simpa using this
         · exact ((((RowF.new .i64 w 3 (n + 1)).alloc _).alloc _).drew)
         · have := ((RowF.new .i64 (w.alloc (.cells (zerosK .i64 (n + 1)) 3)) 3 M).alloc (.cells #[.pointer none, .slice A m c, .slice (some ⟨w.heap.size, 0, none⟩) (n + 1) (n + 1), .slice (some ⟨w.heap.size + 1, 0, none⟩) M M] 58)).drew
           simpa using this
       rw [hW1, hgb, hgl, hgs]
       have HGS := Lib.hid (And.intro hgs (And.intro hgl hgb))
       clear hgs hgl hgb hW1)
    | (obtain ⟨gs, gl, gb, W1, hgs, hgl, hgb, hW1, k0, r1, r2, q1, hd⟩ : ∃ gs gl gb W1, w.heap.size + 1 = gs ∧ w.heap.size = gl ∧ w.heap.size + 1 + 1 = gb ∧ ((((w.alloc (.cells (zerosK .i64 M) 3)).alloc (.cells (zerosK .i64 (n + 1)) 3)).alloc (.cells #[.pointer none, .slice A m c, .slice (some ⟨w.heap.size + 1, 0, none⟩) (n + 1) (n + 1), .slice (some ⟨w.heap.size, 0, none⟩) M M] 58)).drew) = W1 ∧
           Blk W1 gb 58 #[.pointer none, .slice A m c, .slice (some ⟨gs, 0, none⟩) (n + 1) (n + 1), .slice (some ⟨gl, 0, none⟩) M M] ∧ RowF .i64 W1 gs 3 (n + 1) (fun _ => 0) ∧ RowF .i64 W1 gl 3 M (fun _ => 0) ∧ Below w.heap.size w W1 ∧ (w.heap.size ≤ gs ∧ w.heap.size ≤ gl ∧ w.heap.size ≤ gb ∧ gs ≠ gl ∧ gs ≠ gb ∧ gl ≠ gb) := by
         have b1 := below_new1 w (.cells (zerosK .i64 M) 3)
         have b2 := b1.alloc (by simp) (.cells (zerosK .i64 (n + 1)) 3)
         have b3 := b2.alloc (by simp; omega) (.cells #[.pointer none, .slice A m c, .slice (some ⟨w.heap.size + 1, 0, none⟩) (n + 1) (n + 1), .slice (some ⟨w.heap.size, 0, none⟩) M M] 58)
         refine ⟨_, _, _, _, rfl, rfl, rfl, rfl, ?_, ?_, ?_, b3.drew, by omega, by omega, by omega, by omega, by omega, by omega⟩
         · have := (Blk.new ((w.alloc (.cells (zerosK .i64 M) 3)).alloc (.cells (zerosK .i64 (n + 1)) 3)) 58 #[.pointer none, .slice A m c, .slice (some ⟨w.heap.size + 1, 0, none⟩) (n + 1) (n + 1), .slice (some ⟨w.heap.size, 0, none⟩) M M]).drew
           simpa using this
         · have := ((RowF.new .i64 (w.alloc (.cells (zerosK .i64 M) 3)) 3 (n + 1)).alloc (.cells #[.pointer none, .slice A m c, .slice (some ⟨w.heap.size + 1, 0, none⟩) (n + 1) (n + 1), .slice (some ⟨w.heap.size, 0, none⟩) M M] 58)).drew
           simpa using this
         · exact ((((RowF.new .i64 w 3 M).alloc _).alloc _).drew)
       rw [hW1, hgb, hgs, hgl]
       have HGS := Lib.hid (And.intro hgs (And.intro hgl hgb))
       clear hgs hgl hgb hW1)
  all_goals
    obtain ⟨d1, d2, d3, d4, d5, d6⟩ := hd
    have p0 := k0.cell 0
    have p1 := k0.frozen 0
    simp at p0
    clear mk1 mk2 hw1 hw2
    have k1 : Blk (W1.setCell ⟨gb, 0, none⟩ (.pointer (some ⟨gb, 0, none⟩))) gb 58 #[.pointer (some ⟨gb, 0, none⟩), .slice A m c, .slice (some ⟨gs, 0, none⟩) (n + 1) (n + 1), .slice (some ⟨gl, 0, none⟩) M M] := by
      have := k0.set_ 0 (.pointer (some ⟨gb, 0, none⟩))
      simpa using this
    have r1 := r1.far (p := ⟨gb, 0, none⟩) d5 (.pointer (some ⟨gb, 0, none⟩))
    have r2 := r2.far (p := ⟨gb, 0, none⟩) d6 (.pointer (some ⟨gb, 0, none⟩))
    have q1 := q1.setCell (p := ⟨gb, 0, none⟩) d3 (.pointer (some ⟨gb, 0, none⟩))
    clear k0
    go_upto_region 4 with fail
    clear p0 p1
    generalize W1.setCell ⟨gb, 0, none⟩ (.pointer (some ⟨gb, 0, none⟩)) = W2 at *
    go_loopw [7, 30] (fun _ v wr => ∃ i : Nat, v = .int .i64 i ∧ i ≤ m ∧ Blk wr gb 58 #[.pointer (some ⟨gb, 0, none⟩), .slice A m c, .slice (some ⟨gs, 0, none⟩) (n + 1) (n + 1), .slice (some ⟨gl, 0, none⟩) M M] ∧ RowF .i64 wr gs 3 (n + 1) (st1 E i) ∧ RowF .i64 wr gl 3 M (fun _ => 0) ∧ Below w.heap.size w wr) (fun _ v _ => 20000 - (intOf v).toNat)
    case atStart => exact ⟨0, rfl, Nat.zero_le _, k1, r1.congr (fun i hi => by unfold st1; split <;> rfl), r2, q1⟩
    case round =>
      clear k1 r1 r2 q1
      obtain ⟨i, rfl, hi, k1, r1, r2, q1⟩ := hrel
      by_cases hlt : i < m
      · have ha1 := ha.below (q1.mono (Nat.le_refl _))
        obtain ⟨ge, o, rfl, hg, e0, e1, e2, f0, f1, f2⟩ := ha1.edge hlt
        have him : (i : Int) < (m : Int) := by omega
        obtain ⟨hz0, hz1⟩ := hz i hlt
        rw [hz0] at e0
        rw [hz1] at e1
        obtain ⟨hu, hv, huv⟩ := edge_of hf (hE ▸ hlt)
        have HS := Lib.hid (st1_succ E i)
        obtain ⟨u, hu'⟩ : ∃ u, (edge E i).1 = u := ⟨_, rfl⟩
        obtain ⟨v, hv'⟩ : ∃ v, (edge E i).2 = v := ⟨_, rfl⟩
        rw [hu'] at e0 hu huv HS
        rw [hv'] at e1 hv huv HS
        obtain ⟨y, hy⟩ : ∃ y, z i 2 = y := ⟨_, rfl⟩
        rw [hy] at e2
        have hu3 : (u : Int) + 1 < ((n + 1 : Nat) : Int) := by omega
        have hv3 : (v : Int) + 1 < ((n + 1 : Nat) : Int) := by omega
        have hwu : IntKind.i64.wrap ((u : Int) + 1) = ((u + 1 : Nat) : Int) := by rw [IntKind.wrap_i64]; omega
        have hwv : IntKind.i64.wrap ((v : Int) + 1) = ((v + 1 : Nat) : Int) := by rw [IntKind.wrap_i64]; omega
        go_upto_region 6 with fail
        have kb := Blk.new wr 47 #[.int .i64 (u : Int), .int .i64 (v : Int), .int .i64 y]
        have hs1 := q1.size
        have hl1 := k1.lt
        have hl2 := r1.lt
        have q2 := q1.alloc hs1 (.cells #[.int .i64 (u : Int), .int .i64 (v : Int), .int .i64 y] 47)
        have k2 := k1.alloc (.cells #[.int .i64 (u : Int), .int .i64 (v : Int), .int .i64 y] 47)
        have r3 := r1.alloc (.cells #[.int .i64 (u : Int), .int .i64 (v : Int), .int .i64 y] 47)
        have r4 := r2.alloc (.cells #[.int .i64 (u : Int), .int .i64 (v : Int), .int .i64 y] 47)
        clear e0 e1 e2 k1 r1 r2 q1 hz0 hz1 hu' hv' hy f0 f1 f2
        have hbs : gs ≠ wr.heap.size ∧ gb ≠ wr.heap.size := ⟨by omega, by omega⟩
        generalize wr.alloc (.cells #[.int .i64 (u : Int), .int .i64 (v : Int), .int .i64 y] 47) = W3 at *
        generalize wr.heap.size = bx at *
        obtain ⟨x1, hx1⟩ : ∃ x, st1 E i (u + 1) = x := ⟨_, rfl⟩
        have hx1b : 0 ≤ x1 ∧ x1 ≤ 20000 := by rw [← hx1]; exact st1_le E (by omega) _
        have c1 := r3.cell (i := u + 1) (by omega)
        rw [hx1] at c1
        have c2 := r3.frozen (u + 1)
        have b0 := kb.cell 0
        have b1 := kb.cell 1
        have p2 := k2.cell 2
        simp at b0 b1 p2
        go_region
        have hbx := hbs.1
        have r5 := (r3.set_ (u + 1) (x1 + 1)).drew
        have r6 := (r4.far (p := ⟨gs, u + 1, none⟩) (Ne.symm d4) (.int .i64 (x1 + 1))).drew
        have k4 := (k2.far (p := ⟨gs, u + 1, none⟩) (Ne.symm d5) (.int .i64 (x1 + 1))).drew
        have kb2 := (kb.far (p := ⟨gs, u + 1, none⟩) (Ne.symm hbx) (.int .i64 (x1 + 1))).drew
        have q3 := (q2.setCell (p := ⟨gs, u + 1, none⟩) d1 (.int .i64 (x1 + 1))).drew
        generalize (W3.setCell ⟨gs, u + 1, none⟩ (.int .i64 (x1 + 1))).drew = W4 at *
        clear r3 r4 k2 kb q2 c1 c2 b0 b1 p2
        obtain ⟨x2, hx2⟩ : ∃ x, st1 E i (v + 1) = x := ⟨_, rfl⟩
        have hx2b : 0 ≤ x2 ∧ x2 ≤ 20000 := by rw [← hx2]; exact st1_le E (by omega) _
        have c1 := r5.cell (i := v + 1) (by omega)
        rw [if_neg (by omega), hx2] at c1
        have c2 := r5.frozen (v + 1)
        have b0 := kb2.cell 0
        have b1 := kb2.cell 1
        have p2 := k4.cell 2
        simp at b0 b1 p2
        go_upto_region 7 with fail
        go_region
        have r7 := (r5.set_ (v + 1) (x2 + 1)).drew
        have r8 := (r6.far (p := ⟨gs, v + 1, none⟩) (Ne.symm d4) (.int .i64 (x2 + 1))).drew
        have k5 := (k4.far (p := ⟨gs, v + 1, none⟩) (Ne.symm d5) (.int .i64 (x2 + 1))).drew
        have q4 := (q3.setCell (p := ⟨gs, v + 1, none⟩) d1 (.int .i64 (x2 + 1))).drew
        generalize (W4.setCell ⟨gs, v + 1, none⟩ (.int .i64 (x2 + 1))).drew = W5 at *
        clear r5 r6 k4 kb2 q3 c1 c2 b0 b1 p2
        have r9 : RowF .i64 W5 gs 3 (n + 1) (st1 E (i + 1)) := r7.congr (fun j hj => by
          rw [HS.out j]
          by_cases h1 : j = v + 1
          · subst h1; rw [if_pos rfl, if_pos (.inr rfl), hx2]
          · rw [if_neg h1]
            by_cases h2 : j = u + 1
            · subst h2; rw [if_pos rfl, if_pos (.inl rfl), hx1]
            · rw [if_neg h2, if_neg (by omega)])
        clear r7 hwu hwv
        go_wp2_with fail
        go_roundw
        case rel => exact ⟨i + 1, by simp, by omega, k5, r9, r8, q4⟩
        case measure => simp [intOf]; omega
      · obtain rfl : i = m := by omega
        have r1 : RowF .i64 wr gs 3 (n + 1) (st2 E 0) := r1.congr (fun v hv => by rw [← hE]; exact st2_zero E v)
        have him : ¬ (i : Int) < (i : Int) := by omega
        go_upto_region 10 with fail
        go_loopw [8, 58] (fun _ v wr => ∃ j : Nat, v = .int .i64 j ∧ j ≤ n ∧ Blk wr gb 58 #[.pointer (some ⟨gb, 0, none⟩), .slice A i c, .slice (some ⟨gs, 0, none⟩) (n + 1) (n + 1), .slice (some ⟨gl, 0, none⟩) M M] ∧ RowF .i64 wr gs 3 (n + 1) (st2 E j) ∧ RowF .i64 wr gl 3 M (fun _ => 0) ∧ Below w.heap.size w wr) (fun _ v _ => 20000 - (intOf v).toNat)
        case atStart => exact ⟨0, rfl, Nat.zero_le _, k1, r1, r2, q1⟩
        case round =>
          clear k1 r1 r2 q1
          obtain ⟨j, rfl, hj, k1, r1, r2, q1⟩ := hrel
          by_cases hjn : j < n
          · have hj1 : (j : Int) < (n : Int) := by omega
            have hj2 : (j : Int) < ((n + 1 : Nat) : Int) := by omega
            have hj3 : (j : Int) + 1 < ((n + 1 : Nat) : Int) := by omega
            have hwj : IntKind.i64.wrap ((j : Int) + 1) = ((j + 1 : Nat) : Int) := by rw [IntKind.wrap_i64]; omega
            obtain ⟨x1, hx1⟩ : ∃ x, st2 E j (j + 1) = x := ⟨_, rfl⟩
            obtain ⟨x2, hx2⟩ : ∃ x, st2 E j j = x := ⟨_, rfl⟩
            have hx1b : 0 ≤ x1 ∧ x1 ≤ 40000 := by rw [← hx1]; exact st2_le E (by omega) _ _
            have hx2b : 0 ≤ x2 ∧ x2 ≤ 40000 := by rw [← hx2]; exact st2_le E (by omega) _ _
            have c1 := r1.cell (i := j + 1) (by omega)
            have c2 := r1.cell (i := j) (by omega)
            rw [hx1] at c1
            rw [hx2] at c2
            have c3 := r1.frozen (j + 1)
            have p2 := k1.cell 2
            simp at p2
            go_upto_region 12 with fail
            go_region
            have r3 := (r1.set_ (j + 1) (x1 + x2)).drew
            have r4 := (r2.far (p := ⟨gs, j + 1, none⟩) (Ne.symm d4) (.int .i64 (x1 + x2))).drew
            have k2 := (k1.far (p := ⟨gs, j + 1, none⟩) (Ne.symm d5) (.int .i64 (x1 + x2))).drew
            have q2 := (q1.setCell (p := ⟨gs, j + 1, none⟩) d1 (.int .i64 (x1 + x2))).drew
            have r5 := r3.congr (f' := st2 E (j + 1)) (fun v hv => by rw [← hx1, ← hx2]; exact st2_succ E j v)
            generalize (wr.setCell ⟨gs, j + 1, none⟩ (.int .i64 (x1 + x2))).drew = W3 at *
            clear r1 r2 k1 q1 r3 c1 c2 c3 p2 hwj hx1 hx2
            go_wp2_with fail
            go_roundw
            case rel => exact ⟨j + 1, by simp, by omega, k2, r5, r4, q2⟩
            case measure => simp [intOf]; omega
          · obtain rfl : j = n := by omega
            have r1 : RowF .i64 wr gs 3 (j + 1) (fun v => (off E v : Nat)) := r1.congr (fun v hv => by unfold st2; rw [if_pos (by omega)])
            have xc := clone_ok (j + 1) (j + 1) (some ⟨gs, 0, none⟩) (fun v => (off E v : Nat)) wr (r1.arg (by omega) (fun v hv => fits_wf ⟨by omega, by have := off_le E v; omega⟩)) (fun e => by cases e) (by omega)
            have p2 := k1.cell 2
            simp at p2
            have hs1 := q1.size
            go_wp2_with fail
            refine xc.mono ?_
            rintro e w2 ⟨v2, rfl, hw2, q2⟩
            obtain ⟨gn, cn, rfl, hgn, hcn, rn⟩ := own_row hw2 (by omega)
            have k2 := k1.below q2 k1.lt
            have rs := r1.below' q2
            have rl := r2.below' q2
            have hl1 := k1.lt
            have hl2 := r1.lt
            have hl3 := r2.lt
            have q3 := below_end q1 hs1 q2
            have HC := Lib.hid hcn
            have hcn63 : cn ≤ 9223372036854775807 := by
              rcases hw2.2 with ⟨e, _⟩ | ⟨_, cap, _, e, _, _, _, hmx, _⟩
              · cases e
              · cases e; simpa [maxLen] using hmx
            have hnl : gn ≠ gl := by omega
            have hsn : gs ≠ gn := by omega
            have hng : gn ≠ gb := by omega
            have hn0 : w.heap.size ≤ gn := by omega
            have him : ¬ (i : Int) < (i : Int) := by omega
            clear xc p2 k1 r1 r2 hw2 hgn q1 q2
            go_upto_region 16 with fail
            go_loopw [10, 11, 13, 86] (fun _ _ _ v wr => ∃ (k : Nat) (F L : Nat → Int), v = .int .i64 k ∧ k ≤ i ∧ RowF .i64 wr gn 3 (j + 1) F ∧ RowF .i64 wr gl 3 M L ∧ RowF .i64 wr gs 3 (j + 1) (fun v => (off E v : Nat)) ∧ Blk wr gb 58 #[.pointer (some ⟨gb, 0, none⟩), .slice A i c, .slice (some ⟨gs, 0, none⟩) (j + 1) (j + 1), .slice (some ⟨gl, 0, none⟩) M M] ∧ Below w.heap.size w wr ∧ Hid (BInv E j k 0 F L)) (fun _ _ _ v _ => 20000 - (intOf v).toNat)
            case atStart => exact ⟨0, _, _, rfl, Nat.zero_le _, rn, rl, rs, k2, q3, Lib.hid BInv.start⟩
            case round =>
              clear k2 rs rl rn q3 hl1 hl2 hl3
              obtain ⟨k, F, L, rfl, hk, rn, rl, rs, k1, q1, HI⟩ := hrel
              by_cases hkm : k < i
              · have ha1 := ha.below (q1.mono (Nat.le_refl _))
                obtain ⟨ge, o, rfl, hg, e0, e1, e2, f0, f1, f2⟩ := ha1.edge hkm
                have hkm2 : (k : Int) < (i : Int) := by omega
                obtain ⟨hz0, hz1⟩ := hz k hkm
                rw [hz0] at e0
                rw [hz1] at e1
                obtain ⟨hu, hv, huv⟩ := edge_of hf (hE ▸ hkm)
                obtain ⟨u, hu'⟩ : ∃ u, (edge E k).1 = u := ⟨_, rfl⟩
                obtain ⟨v, hv'⟩ : ∃ v, (edge E k).2 = v := ⟨_, rfl⟩
                rw [hu'] at e0 hu huv
                rw [hv'] at e1 hv huv
                obtain ⟨y, hy⟩ : ∃ y, z k 2 = y := ⟨_, rfl⟩
                rw [hy] at e2
                have hu3 : (u : Int) < ((j + 1 : Nat) : Int) := by omega
                have hv3 : (v : Int) < ((j + 1 : Nat) : Int) := by omega
                have ix0 := fun w => (run_index91 (u : Int) (v : Int) w).1
                have ix1 := fun w => (run_index91 (u : Int) (v : Int) w).2
                go_upto_region 18 with fail
                have kb := Blk.new wr 47 #[.int .i64 (u : Int), .int .i64 (v : Int), .int .i64 y]
                have hs1 := q1.size
                have hl1 := k1.lt
                have hl2 := rn.lt
                have hl3 := rl.lt
                have kk := k1.alloc (.cells #[.int .i64 (u : Int), .int .i64 (v : Int), .int .i64 y] 47)
                have rn := rn.alloc (.cells #[.int .i64 (u : Int), .int .i64 (v : Int), .int .i64 y] 47)
                have rl := rl.alloc (.cells #[.int .i64 (u : Int), .int .i64 (v : Int), .int .i64 y] 47)
                have rs := rs.alloc (.cells #[.int .i64 (u : Int), .int .i64 (v : Int), .int .i64 y] 47)
                have qq := q1.alloc hs1 (.cells #[.int .i64 (u : Int), .int .i64 (v : Int), .int .i64 y] 47)
                have hbl : wr.heap.size ≠ gl := by omega
                have hnb : gn ≠ wr.heap.size := by omega
                clear e0 e1 e2 k1 q1 hz0 hz1 hy f0 f1 f2 hl1 hl2 hl3 hs1
                generalize wr.alloc (.cells #[.int .i64 (u : Int), .int .i64 (v : Int), .int .i64 y] 47) = W2 at *
                generalize wr.heap.size = bx at *
                have b0 := kb.cell 0
                have b1 := kb.cell 1
                simp at b0 b1
                go_upto_region 19 with fail
                clear b0 b1
                go_loopw [13, 96] (fun _ vs wi => ∃ (F L : Nat → Int), True ∧ RowF .i64 wi gn 3 (j + 1) F ∧ RowF .i64 wi gl 3 M L ∧ RowF .i64 wi gs 3 (j + 1) (fun v => (off E v : Nat)) ∧ Blk wi gb 58 #[.pointer (some ⟨gb, 0, none⟩), .slice (some ⟨ge, o, none⟩) i c, .slice (some ⟨gs, 0, none⟩) (j + 1) (j + 1), .slice (some ⟨gl, 0, none⟩) M M] ∧ Blk wi bx 47 #[.int .i64 (u : Int), .int .i64 (v : Int), .int .i64 y] ∧ Below w.heap.size w wi ∧ True ∧ ((vs = .int .i64 0 ∧ Hid (BInv E j k 0 F L)) ∨ (vs = .int .i64 1 ∧ Hid (BInv E j k 1 F L)) ∨ (vs = .int .i64 2 ∧ Hid (BInv E j (k + 1) 0 F L)))) (fun _ vs _ => 3 - (intOf vs).toNat)
                case atStart => exact ⟨F, L, trivial, rn, rl, rs, kk, kb, qq, trivial, .inl ⟨rfl, HI⟩⟩
                case round =>
                  clear rn rl rs kk kb qq HI
                  obtain ⟨F, L, -, rn, rl, rs, kk, kb, qq, -, ⟨rfl, HI⟩ | ⟨rfl, HI⟩ | ⟨rfl, HI⟩⟩ := hrel
                  · obtain ⟨hF, hP, hI⟩ := HI.out.step0 (hE ▸ hkm) hf
                    rw [hu'] at hF hP hI
                    have HI2 := Lib.hid hI
                    obtain ⟨p, hp⟩ : ∃ p, off E u + cnt E u k = p := ⟨_, rfl⟩
                    rw [hp] at hF hP HI2
                    rw [hF] at HI2
                    have hpM : (p : Int) < (M : Int) := by omega
                    have c1 := rn.cell (i := u) (by omega)
                    rw [hF] at c1
                    have c2 := rn.frozen u
                    have c3 := rl.frozen p
                    have hpm : p < M := by omega
                    have c4 := rl.cell (i := p) hpm
                    have p3 := kk.cell 3
                    simp at p3
                    clear hI hP hF hp
                    go_upto_region 21 with fail
                    go_region
                    have rl2 := (rl.set_ p (k : Int)).drew
                    have rn2 := (rn.far (p := ⟨gl, p, none⟩) hnl (.int .i64 (k : Int))).drew
                    have rs2 := (rs.far (p := ⟨gl, p, none⟩) d4 (.int .i64 (k : Int))).drew
                    have kk2 := (kk.far (p := ⟨gl, p, none⟩) (Ne.symm d6) (.int .i64 (k : Int))).drew
                    have kb2 := (kb.far (p := ⟨gl, p, none⟩) hbl (.int .i64 (k : Int))).drew
                    have q3 := (qq.setCell (p := ⟨gl, p, none⟩) d2 (.int .i64 (k : Int))).drew
                    have c1' : (wr.setCell ⟨gl, p, none⟩ (.int .i64 (k : Int))).drew.cell? ⟨gn, u, none⟩ = some (.int .i64 (p : Int)) := by
                      have := rn2.cell (i := u) (by omega)
                      rw [this]
                      exact (rn.cell (i := u) (by omega)).symm.trans c1
                    have c2' := rn2.frozen u
                    generalize (wr.setCell ⟨gl, p, none⟩ (.int .i64 (k : Int))).drew = W3 at *
                    clear c1 c2 c3 c4 p3 rl rn rs kk kb qq
                    have rl3 := rl2.far (p := ⟨gn, u, none⟩) (Ne.symm hnl) (.int .i64 ((p : Int) + 1))
                    have rn3 := rn2.set_ u ((p : Int) + 1)
                    have rs3 := rs2.far (p := ⟨gn, u, none⟩) hsn (.int .i64 ((p : Int) + 1))
                    have kk3 := kk2.far (p := ⟨gn, u, none⟩) (Ne.symm hng) (.int .i64 ((p : Int) + 1))
                    have kb3 := kb2.far (p := ⟨gn, u, none⟩) (Ne.symm hnb) (.int .i64 ((p : Int) + 1))
                    have q4 := q3.setCell (p := ⟨gn, u, none⟩) hn0 (.int .i64 ((p : Int) + 1))
                    clear rl2 rn2 rs2 kk2 kb2 q3
                    go_upto_region 23 with fail
                    generalize W3.setCell ⟨gn, u, none⟩ (.int .i64 ((p : Int) + 1)) = W4 at *
                    clear c1' c2'
                    go_wp2_with fail
                    go_roundw
                    case rel => exact ⟨_, _, trivial, rn3, rl3, rs3, kk3, kb3, q4, trivial, .inr (.inl ⟨by simp, HI2⟩)⟩
                    case measure => simp [intOf]
                  · obtain ⟨hF, hP, hI⟩ := HI.out.step1 (hE ▸ hkm) hf
                    rw [hv'] at hF hP hI
                    have HI2 := Lib.hid hI
                    obtain ⟨p, hp⟩ : ∃ p, off E v + cnt E v k = p := ⟨_, rfl⟩
                    rw [hp] at hF hP HI2
                    rw [hF] at HI2
                    have hpM : (p : Int) < (M : Int) := by omega
                    have c1 := rn.cell (i := v) (by omega)
                    rw [hF] at c1
                    have c2 := rn.frozen v
                    have c3 := rl.frozen p
                    have hpm : p < M := by omega
                    have c4 := rl.cell (i := p) hpm
                    have p3 := kk.cell 3
                    simp at p3
                    clear hI hP hF hp
                    go_upto_region 21 with fail
                    go_region
                    have rl2 := (rl.set_ p (k : Int)).drew
                    have rn2 := (rn.far (p := ⟨gl, p, none⟩) hnl (.int .i64 (k : Int))).drew
                    have rs2 := (rs.far (p := ⟨gl, p, none⟩) d4 (.int .i64 (k : Int))).drew
                    have kk2 := (kk.far (p := ⟨gl, p, none⟩) (Ne.symm d6) (.int .i64 (k : Int))).drew
                    have kb2 := (kb.far (p := ⟨gl, p, none⟩) hbl (.int .i64 (k : Int))).drew
                    have q3 := (qq.setCell (p := ⟨gl, p, none⟩) d2 (.int .i64 (k : Int))).drew
                    have c1' : (wr.setCell ⟨gl, p, none⟩ (.int .i64 (k : Int))).drew.cell? ⟨gn, v, none⟩ = some (.int .i64 (p : Int)) := by
                      have := rn2.cell (i := v) (by omega)
                      rw [this]
                      exact (rn.cell (i := v) (by omega)).symm.trans c1
                    have c2' := rn2.frozen v
                    generalize (wr.setCell ⟨gl, p, none⟩ (.int .i64 (k : Int))).drew = W3 at *
                    clear c1 c2 c3 c4 p3 rl rn rs kk kb qq
                    have rl3 := rl2.far (p := ⟨gn, v, none⟩) (Ne.symm hnl) (.int .i64 ((p : Int) + 1))
                    have rn3 := rn2.set_ v ((p : Int) + 1)
                    have rs3 := rs2.far (p := ⟨gn, v, none⟩) hsn (.int .i64 ((p : Int) + 1))
                    have kk3 := kk2.far (p := ⟨gn, v, none⟩) (Ne.symm hng) (.int .i64 ((p : Int) + 1))
                    have kb3 := kb2.far (p := ⟨gn, v, none⟩) (Ne.symm hnb) (.int .i64 ((p : Int) + 1))
                    have q4 := q3.setCell (p := ⟨gn, v, none⟩) hn0 (.int .i64 ((p : Int) + 1))
                    clear rl2 rn2 rs2 kk2 kb2 q3
                    go_upto_region 23 with fail
                    generalize W3.setCell ⟨gn, v, none⟩ (.int .i64 ((p : Int) + 1)) = W4 at *
                    clear c1' c2'
                    go_wp2_with fail
                    go_roundw
                    case rel => exact ⟨_, _, trivial, rn3, rl3, rs3, kk3, kb3, q4, trivial, .inr (.inr ⟨by simp, HI2⟩)⟩
                    case measure => simp [intOf]
                  · go_wp2_with fail
                    go_roundw
                    case rel => exact ⟨k + 1, F, L, by simp, by omega, rn, rl, rs, kk, qq, HI⟩
                    case measure => simp [intOf]; omega
              · obtain rfl : k = i := by omega
                have HG := Lib.hid (gr_made hE hf ha hz hA q1 k1 rs rl hM HI.out)
                clear k1 rs rl rn HI
                go_wp2_with fail
                go_ret
                obtain ⟨K, rfl, hg⟩ := HG.out
                exact ⟨K, rfl, hg, q1⟩
end Go.Proofs.Ytoiafopndlnknaa
