/-
  For Colors: rows of booleans, slices.Index, Around one level deeper; greedy colors, plainly.
-/
import Derived.Test.YtoiafopndlnknaaF0
set_option linter.unusedVariables false
set_option linter.unusedSimpArgs false
namespace Go.Proofs.Ytoiafopndlnknaa
open Go.RowKit Go.Shelf

attribute [local go_sem] Oper.semAt_some

set_option maxRecDepth 100000 in
set_option maxHeartbeats 2500000 in
theorem around6_in (l Bg Bv v n : Nat) (K : GB) (E : Es) (hv : v < n) (J Jx : List (Nat × Nat) → World → Prop) (W : World)
    (hJa : AbidesFrom W.heap.size J)
    (hY : ∀ pre x W, x.2 < n → J pre W → pre.length < cnt E v E.length → YieldAt Fence.wide 5 Try.prog l #[.int .i64 (x.1 : Nat), .int .i64 (x.2 : Nat)] W fun e W' =>
      (e = .returned (.bool true) ∧ J (pre ++ [x]) W' ∧ Kq (Bg :: Bv :: K.l) W W') ∨ (e = .returned (.bool false) ∧ Jx (pre ++ [x]) W'))
    (hBg : Blk W Bg 27 #[.pointer (some ⟨K.g, 0, none⟩)]) (hBv : Blk W Bv 3 #[.int .i64 (v : Int)]) (hG : Gr W K n E) (h0 : J [] W) :
    CallsIn Fence.wide 6 Try.prog 65 #[.func (.yield l) #[] #[], .pointer (some ⟨Bg, 0, none⟩), .pointer (some ⟨Bv, 0, none⟩)] W fun e W' => (∃ v, e = .returned v) ∧
      ((∃ ys, ys = arL E v ∧ J ys W') ∨ (∃ pre, True ∧ Jx pre W')) := by
  have cg := hBg.cell 0
  have cv := hBv.cell 0
  simp at cg cv
  have xa := at_ok hG hv
  have hm := hG.fine.2.1
  have hcl := cnt_le E v E.length
  have hlen := arL_len E v
  refine callsIn_of_wp Try.func65 rfl trivial ?_ rfl
  simp only [Try.ntmps65, List.size_toArray, List.length_cons, List.length_nil, Nat.reduceAdd, Nat.reduceSub, Array.replicate_succ, Array.replicate_zero, List.push_toArray, List.append_toArray, List.nil_append, List.cons_append]
  gi_wp2_with fail
  refine ⟨trivial, (callsIn_wide.2 xa).mono ?_⟩
  rintro e W1 ⟨o, c, rfl, ho, hqc, hc, nq, rfl⟩
  have hBg : Blk (W.drewN nq) Bg 27 #[.pointer (some ⟨K.g, 0, none⟩)] := hBg
  have hBv : Blk (W.drewN nq) Bv 3 #[.int .i64 (v : Int)] := hBv
  have hG := hG.below (below_drewN (Below.refl _ _) nq)
  have h0 : J [] (W.drewN nq) := hJa _ W _ none h0 (grow_drewN (grow_refl _ _) nq) (fun r e => by cases e)
  have HO := Lib.hid ho
  have HL := Lib.hid hlen
  obtain ⟨q, hq⟩ : ∃ q, cnt E v E.length = q := ⟨_, rfl⟩
  have HQ := Lib.hid hq
  rw [hq] at hcl hqc hlen hY
  rw [hq]
  clear cg cv xa hq ho
  generalize W.drewN nq = W0 at *
  gi_wp2_with fail
  gi_loopg [5, 6, 7, 12] q (fun k _ _ _ p wr => ∃ (t : Nat), k = q - t ∧ p = .int .i64 t ∧ t ≤ q ∧ J ((arL E v).take t) wr ∧ Gr wr K n E ∧ Blk wr Bg 27 #[.pointer (some ⟨K.g, 0, none⟩)] ∧ Blk wr Bv 3 #[.int .i64 (v : Int)])
  case atStart => exact ⟨0, rfl, rfl, Nat.zero_le _, h0, hG, hBg, hBv⟩
  case round =>
    clear hBg hBv hG h0
    obtain ⟨t, rfl, rfl, ht, hJ, hG, hBg, hBv⟩ := hrel
    have cg := hBg.cell 0
    have cv := hBv.cell 0
    simp at cg cv
    by_cases hlt : t < q
    · have htq : (t : Int) < (q : Int) := by omega
      obtain ⟨L, hL1, hL2⟩ := hG.list
      have hoe := HO.out (by have := HQ.out; omega)
      have hmem := inc_get E v (t := t) (by rw [HQ.out]; exact hlt)
      obtain ⟨i, hi⟩ : ∃ i, (inc E v E.length).getD t 0 = i := ⟨_, rfl⟩
      have hc9 : wr.cell? ⟨K.gl, o + t, none⟩ = some (.int .i64 (i : Nat)) := by
        have h1 := hL2 v hv t (by rw [HQ.out]; exact hlt)
        have h2 := off_le E (v + 1)
        have h3 : off E (v + 1) = off E v + cnt E v E.length := rfl
        have := hL1.cell (i := off E v + t) (by have := HQ.out; omega)
        rw [h1, hi] at this
        rw [hoe]
        exact this
      rw [hi] at hmem
      obtain ⟨him, hhit⟩ := hmem
      obtain ⟨g1, g2, W9, g3, _⟩ := hG.es i him
      have HT := Lib.hid (arL_take E v (t := t) (by rw [HQ.out]; exact hlt) hi)
      obtain ⟨_, A, ce, M, c1, _, _, _, hce, hce2, hA⟩ := hG.cells
      have hA := hA (by omega)
      subst hA
      have hen := hG.edge him
      obtain ⟨eu, hu⟩ : ∃ u, (edge E i).1 = u := ⟨_, rfl⟩
      obtain ⟨ev, hv'⟩ : ∃ u, (edge E i).2 = u := ⟨_, rfl⟩
      have HOT := Lib.hid (show other (edge E i) v = if ev = v then eu else ev from by unfold other; rw [hu, hv'])
      rw [hu] at g1 hen
      rw [hv'] at g2 hen
      have him2 : (i : Int) < (E.length : Int) := by omega
      clear hL1 hL2 hoe hi hhit hu hv'
      have hl2 : ((arL E v).take t).length < q := by rw [List.length_take]; omega
      have hJ2 : J ((arL E v).take t) (wr.alloc (.cells #[.int .i64 (eu : Int), .int .i64 (ev : Int), .int .i64 W9] 47)) := hJa _ _ _ none hJ (World.grownBy_alloc _ _ none) (fun r e => by cases e)
      have cv2 := (hBv.alloc (.cells #[.int .i64 (eu : Int), .int .i64 (ev : Int), .int .i64 W9] 47)).cell 0
      simp at cv2
      have hG2 := hG.below (below_new1 wr (.cells #[.int .i64 (eu : Int), .int .i64 (ev : Int), .int .i64 W9] 47))
      clear hG hJ
      by_cases hev : ev = v
      · have hev1 : ((ev : Int) == (v : Int)) = true := by rw [hev]; simp
        have HEV := Lib.hid hev
        clear hev
        obtain ⟨fn, tmps, assign, body, hy, hR⟩ := hY ((arL E v).take t) (i, eu) _ hen.1 hJ2 hl2
        clear hJ2 hl2 him
        gi_wp2_with fail
        refine hR.mono ?_
        rintro e W3 (⟨rfl, hJ3, hk⟩ | ⟨rfl, hJx3⟩)
        · have hBg3 : Blk W3 Bg 27 #[.pointer (some ⟨K.g, 0, none⟩)] := (hk.2 Bg (by simp)).trans (hBg.alloc _)
          have hBv3 : Blk W3 Bv 3 #[.int .i64 (v : Int)] := (hk.2 Bv (by simp)).trans (hBv.alloc _)
          have hG3 := hG2.heap (fun k hkk => hk.2 k (by simp [hkk])) hk.1
          clear hk hy hR
          gi_wp2_with fail
          go_roundg (q - (t + 1))
          case measure => omega
          case rel => exact ⟨t + 1, rfl, by simp, by omega, by rw [HT.out, HOT.out, if_pos HEV.out]; exact hJ3, hG3, hBg3, hBv3⟩
        · gi_wp2_with fail
          refine bodyPost_ret (results_none rfl _ _ _) rfl ?_
          exact ⟨⟨_, rfl⟩, .inr ⟨_, trivial, hJx3⟩⟩
      · have hev1 : ((ev : Int) == (v : Int)) = false := by rw [beq_eq_false_iff_ne]; omega
        have HEV := Lib.hid hev
        clear hev
        obtain ⟨fn, tmps, assign, body, hy, hR⟩ := hY ((arL E v).take t) (i, ev) _ hen.2.1 hJ2 hl2
        clear hJ2 hl2 him
        gi_wp2_with fail
        refine hR.mono ?_
        rintro e W3 (⟨rfl, hJ3, hk⟩ | ⟨rfl, hJx3⟩)
        · have hBg3 : Blk W3 Bg 27 #[.pointer (some ⟨K.g, 0, none⟩)] := (hk.2 Bg (by simp)).trans (hBg.alloc _)
          have hBv3 : Blk W3 Bv 3 #[.int .i64 (v : Int)] := (hk.2 Bv (by simp)).trans (hBv.alloc _)
          have hG3 := hG2.heap (fun k hkk => hk.2 k (by simp [hkk])) hk.1
          clear hk hy hR
          gi_wp2_with fail
          go_roundg (q - (t + 1))
          case measure => omega
          case rel => exact ⟨t + 1, rfl, by simp, by omega, by rw [HT.out, HOT.out, if_neg HEV.out]; exact hJ3, hG3, hBg3, hBv3⟩
        · gi_wp2_with fail
          refine bodyPost_ret (results_none rfl _ _ _) rfl ?_
          exact ⟨⟨_, rfl⟩, .inr ⟨_, trivial, hJx3⟩⟩
    · have etq : q = t := by omega
      subst etq
      have htq : ¬ (q : Int) < (q : Int) := by omega
      have HJ := Lib.hid hJ
      clear hJ
      gi_wp2_with fail
      go_end0
      exact ⟨⟨_, rfl⟩, .inl (by have := HJ.out; rwa [List.take_of_length_le (by rw [HL.out, HQ.out]; exact Nat.le_refl _)] at this)⟩
theorem around6_stops (Bg Bv v n : Nat) (K : GB) (E : Es) (hv : v < n) (w : World) (hBg : Blk w Bg 27 #[.pointer (some ⟨K.g, 0, none⟩)]) (hBv : Blk w Bv 3 #[.int .i64 (v : Int)]) (hG : Gr w K n E) :
    SeqStopsK Fence.wide 6 Try.prog 65 #[.pointer (some ⟨Bg, 0, none⟩), .pointer (some ⟨Bv, 0, none⟩)] (fun x : EO n => #[.int .i64 (x.1.1 : Nat), .int .i64 (x.1.2 : Nat)]) (Kq (Bg :: Bv :: K.l)) (fun ys => ys.map (·.1) = arL E v) (fun _ => True) (cnt E v E.length) w := fun l J Jx W hW hJa _ hY h0 => by
  refine (around6_in l Bg Bv v n K E hv (fun pre W => ∃ pre' : List (EO n), pre'.map (·.1) = pre ∧ J pre' W) (fun _ W => ∃ pre', Jx pre' W) W (fun s A A' row ⟨p, e, h⟩ hg hr => ⟨p, e, hJa p A A' row h hg hr⟩) ?_ (hBg.below hW hBg.lt) (hBv.below hW hBv.lt) (hG.below hW) ⟨[], rfl, h0⟩).mono ?_
  · rintro pre x W1 hx ⟨p, rfl, hj⟩ hl
    refine (hY p ⟨x, hx⟩ W1 hj (by simpa using hl)).mono ?_
    rintro e W' (⟨h1, h2, h3⟩ | ⟨h1, h2⟩)
    · exact .inl ⟨h1, ⟨p ++ [⟨x, hx⟩], by simp, h2⟩, h3⟩
    · exact .inr ⟨h1, _, h2⟩
  · rintro e W' ⟨hv, ⟨ys, rfl, p, hp, hj⟩ | ⟨pre, _, p, hj⟩⟩
    · exact ⟨hv, .inl ⟨p, hp, hj⟩⟩
    · exact ⟨hv, .inr ⟨p, trivial, hj⟩⟩
/-- block g holds q booleans -/
def RowB (w : World) (g q : Nat) (f : Nat → Bool) : Prop := ∃ cs, Blk w g 4 cs ∧ ∀ i, i < q → cs[i]? = some (.bool (f i))
section
variable {w w' : World} {g q : Nat} {f : Nat → Bool}
theorem RowB.cell (h : RowB w g q f) {i : Nat} (hi : i < q) : w.cell? ⟨g, i, none⟩ = some (.bool (f i)) := by
  obtain ⟨cs, h1, h2⟩ := h
  exact (h1.cell i).trans (h2 i hi)
theorem RowB.frozen (h : RowB w g q f) (i : Nat) : w.frozen? ⟨g, i, none⟩ = false := by obtain ⟨cs, h1, _⟩ := h; exact h1.frozen i
theorem RowB.lt (h : RowB w g q f) : g < w.heap.size := by obtain ⟨cs, h1, _⟩ := h; exact h1.lt
theorem RowB.below {B : Nat} (h : RowB w g q f) (hb : Below B w w') (hg : g < B) : RowB w' g q f := by obtain ⟨cs, h1, h2⟩ := h; exact ⟨cs, h1.below hb hg, h2⟩
theorem RowB.far (h : RowB w g q f) {p : Addr} (hp : g ≠ p.block) (u : Value) : RowB (w.setCell p u) g q f := by obtain ⟨cs, h1, h2⟩ := h; exact ⟨cs, h1.far hp u, h2⟩
theorem RowB.set_ (h : RowB w g q f) (j : Nat) (b : Bool) : RowB (w.setCell ⟨g, j, none⟩ (.bool b)) g q (fun i => if i = j then b else f i) := by
  obtain ⟨cs, h1, h2⟩ := h
  refine ⟨_, h1.set_ j _, fun i hi => ?_⟩
  have := h2 i hi
  rw [Array.getElem?_setIfInBounds]
  by_cases e : j = i
  · subst e
    rw [if_pos rfl, if_pos (Array.getElem?_eq_some_iff.1 this).1]
    simp
  · rw [if_neg e, this]
    show _ = some (Value.bool (if i = j then b else f i))
    rw [if_neg (Ne.symm e)]
theorem RowB.congr {f' : Nat → Bool} (h : RowB w g q f) (he : ∀ i, i < q → f i = f' i) : RowB w g q f' := by obtain ⟨cs, h1, h2⟩ := h; exact ⟨cs, h1, fun i hi => by rw [h2 i hi, he i hi]⟩
end
def falses (n : Nat) : Array Value := madeCells #[.bool false] n
theorem RowB.made (w : World) (n : Nat) : RowB (w.alloc (.cells (falses n) 4)) w.heap.size n (fun _ => false) :=
  ⟨_, Blk.new w 4 _, fun i hi => by unfold falses; rw [← Array.getElem?_toList, toList_madeCells_one, List.getElem?_replicate, if_pos hi]⟩
theorem info4 : (Try.prog.info? 4).map (fun i => (i.zero, i.size, i.bytes)) = some (some (.bool false), 1, 1) := by kernel_rfl
theorem run_make34 (n : Nat) (hn : n ≤ 100000) (w : World) :
    (Instr.makeSlice 34 (.int .i64 (n : Int)) (.int .i64 (n : Int))).run Try.prog w = .ok (.slice (some ⟨w.heap.size, 0, none⟩) n n) (w.alloc (.cells (falses n) 4)) := by
  obtain ⟨i0, hi, hz0, hz1, hz2⟩ := info_parts info4
  have hr := Go.run_make (P := Try.prog) w 34 4 i0 (.bool false) Try.underlying34 hi hz0 .i64 .i64 n n (by omega) (by omega) (by rw [hz2]; omega) (by omega)
  simp only [Int.toNat_natCast] at hr
  rw [hr, hz1, Nat.mul_one]
  rfl
set_option maxRecDepth 100000 in
set_option maxHeartbeats 1000000 in
/-- the first that is false -/
theorem index_ok (w : World) (g q : Nat) (f : Nat → Bool) (x : Nat) (h : RowB w g q f) (hx : x < q) (hf : f x = false) (hm : ∀ i, i < x → f i = true) (hq : q ≤ 100000) :
    Calls Try.prog 46 #[.slice (some ⟨g, 0, none⟩) q q, .bool false] w fun e w' => e = .returned (.int .i64 (x : Nat)) ∧ w = w' := by
  have HF := Lib.hid hf
  have HM := Lib.hid hm
  have HC := Lib.hid (fun i (hi : i < q) => h.cell hi)
  clear h hf hm
  go_enter Try.func46, Try.ntmps46
  go_wp2_with fail
  go_loopw [5, 8] (fun _ v wr => ∃ i : Nat, v = .int .i64 i ∧ i ≤ x ∧ wr = w) (fun _ v _ => 200000 - (intOf v).toNat)
  case atStart => exact ⟨0, rfl, Nat.zero_le _, rfl⟩
  case round =>
    obtain ⟨i, rfl, hi, rfl⟩ := hrel
    have c1 := HC.out i (by omega)
    have hiq : (i : Int) < (q : Int) := by omega
    by_cases hlt : i < x
    · rw [HM.out i hlt] at c1
      go_wp2_with fail
      go_roundw
      case rel => exact ⟨i + 1, by simp, by omega, by simp⟩
      case measure => simp [intOf]; omega
    · have e : i = x := by omega
      subst e
      rw [HF.out] at c1
      go_wp2_with fail
      go_ret
      exact ⟨rfl, rfl⟩
theorem nodup_sub' : ∀ {l m : List Int}, l.Nodup → (∀ x ∈ l, x ∈ m) → l.length ≤ m.length
  | [], m, _, _ => Nat.zero_le _
  | x :: l, m, h, hs => by
    have hx := hs x (by simp)
    have h2 := List.nodup_cons.1 h
    have ih := nodup_sub' (l := l) (m := m.erase x) h2.2 (fun y hy => by
      have := hs y (by simp [hy])
      exact (List.mem_erase_of_ne (fun e => h2.1 (by rw [← e]; exact hy))).2 this)
    rw [List.length_erase_of_mem hx] at ih
    have : 0 < m.length := List.length_pos_of_mem hx
    simp only [List.length_cons]
    omega
/-- the least number that is none of these -/
def mex (S : List Int) : Nat := ((List.range (S.length + 1)).find? fun c : Nat => !S.contains (c : Int)).getD 0
theorem mex_spec (S : List Int) : mex S ≤ S.length ∧ ((mex S : Nat) : Int) ∉ S ∧ ∀ c : Nat, c < mex S → (c : Int) ∈ S := by
  have hex : ∃ c : Nat, c < S.length + 1 ∧ (c : Int) ∉ S := by
    apply Classical.byContradiction
    intro hn
    have hall : ∀ c : Nat, c < S.length + 1 → (c : Int) ∈ S := fun c hc => Classical.byContradiction fun h => hn ⟨c, hc, h⟩
    have := nodup_sub' (l := (List.range (S.length + 1)).map fun c : Nat => (c : Int)) (m := S) (List.pairwise_map.2 (List.nodup_range.imp (fun h e => h (by omega)))) (fun x hx => by
      obtain ⟨c, hc, rfl⟩ := List.mem_map.1 hx
      exact hall c (by simpa using hc))
    rw [List.length_map, List.length_range] at this
    omega
  unfold mex
  cases h : (List.range (S.length + 1)).find? fun c : Nat => !S.contains (c : Int) with
  | none =>
    obtain ⟨c, hc, hn⟩ := hex
    have := List.find?_eq_none.1 h c (by simpa using hc)
    simp at this
    exact absurd this hn
  | some m =>
    obtain ⟨h1, xs, bs, h2, h3⟩ := List.find?_eq_some_iff_append.1 h
    have hlen := congrArg List.length h2
    have hm : m = xs.length := by
      have := congrArg (fun l => l[xs.length]?) h2
      simp only [List.getElem?_append_right (Nat.le_refl _), Nat.sub_self, List.getElem?_cons_zero] at this
      rw [List.getElem?_range (by rw [List.length_range] at hlen; rw [hlen, List.length_append, List.length_cons]; omega)] at this
      simpa using this.symm
    refine ⟨?_, by simpa using h1, fun c hc => ?_⟩
    · rw [List.length_range, List.length_append, List.length_cons] at hlen
      show m ≤ _
      omega
    · have hc : c < m := hc
      have hin : c ∈ xs := by
        have this : (List.range (S.length + 1))[c]? = (xs ++ m :: bs)[c]? := by rw [h2]
        rw [List.getElem?_range (by rw [List.length_range] at hlen; rw [hlen, List.length_append, List.length_cons]; omega), List.getElem?_append_left (by omega)] at this
        exact List.mem_of_getElem? this.symm
      have := h3 c hin
      simpa using this
/-- one vertex gets its color -/
def colStep (E : Es) (col : Nat → Int) (v : Nat) : Nat → Int := fun u => if u = v then (mex ((oth E v E.length).map col) : Nat) else col u
def colF (E : Es) (l : List Nat) : Nat → Int := l.foldl (colStep E) (fun _ => -1)
theorem colF_snoc (E : Es) (l : List Nat) (v : Nat) : colF E (l ++ [v]) = colStep E (colF E l) v := by simp [colF]
end Go.Proofs.Ytoiafopndlnknaa
