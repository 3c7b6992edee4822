/-
  Around: the edges of a vertex, and their other ends.
-/
import Derived.Test.YtoiafopndlnknaaC2
import Derived.Sort.LoopGhostIn
import Derived.StillTailTactics
set_option linter.unusedVariables false
set_option linter.unusedSimpArgs false
namespace Go.Proofs.Ytoiafopndlnknaa
open Go.RowKit Go.Shelf

attribute [local go_sem] Oper.semAt_some

/-- what a body keeps: some blocks -/
def Kq (l : List Nat) (W W' : World) : Prop := W.heap.size ≤ W'.heap.size ∧ ∀ k ∈ l, W'.heap[k]? = W.heap[k]?
theorem Kq.trans {l : List Nat} {A B C : World} (h : Kq l A B) (k : Kq l B C) : Kq l A C := ⟨Nat.le_trans h.1 k.1, fun i hi => (k.2 i hi).trans (h.2 i hi)⟩
def arL (E : Es) (v : Nat) : List (Nat × Nat) := (inc E v E.length).map fun i => (i, other (edge E i) v)
theorem arL_len (E : Es) (v : Nat) : (arL E v).length = cnt E v E.length := by simp [arL, cnt]
theorem arL_oth (E : Es) (v : Nat) : (arL E v).map (·.2) = oth E v E.length := by simp [arL, oth]
theorem inc_get (E : Es) (v : Nat) {t : Nat} (h : t < cnt E v E.length) : (inc E v E.length).getD t 0 < E.length ∧ hits (edge E ((inc E v E.length).getD t 0)) v = true := by
  have h : t < (inc E v E.length).length := h
  rw [List.getD_eq_getElem?_getD, List.getElem?_eq_getElem h]
  exact inc_lt (List.getElem_mem h)
theorem arL_take (E : Es) (v : Nat) {t i : Nat} (h : t < cnt E v E.length) (hi : (inc E v E.length).getD t 0 = i) : (arL E v).take (t + 1) = (arL E v).take t ++ [(i, other (edge E i) v)] := by
  have h1 : t < (arL E v).length := by rw [arL_len]; exact h
  have h2 : t < (inc E v E.length).length := h
  rw [List.take_succ_eq_append_getElem h1]
  have e : (arL E v)[t] = (fun i => (i, other (edge E i) v)) ((inc E v E.length)[t]) := List.getElem_map _
  rw [e]
  rw [List.getD_eq_getElem?_getD, List.getElem?_eq_getElem h2] at hi
  simp at hi
  rw [hi]
theorem around_any (p : Option Addr) (v : Int) (w : World) :
    Calls Try.prog 45 #[.pointer p, .int .i64 v] w fun e w' => e = .returned (.func (.func 65) #[] #[.pointer (some ⟨w.heap.size, 0, none⟩), .pointer (some ⟨w.heap.size + 1, 0, none⟩)]) ∧ (w.alloc (.cells #[.pointer p] 27)).alloc (.cells #[.int .i64 v] 3) = w' := by
  go_enter Try.func45, Try.ntmps45
  go_wp2
  go_ret
  exact ⟨rfl, rfl⟩
set_option maxRecDepth 100000 in
set_option maxHeartbeats 2500000 in
theorem around7_in (l Bg Bv v n : Nat) (K : GB) (E : Es) (hv : v < n) (J Jx : List (Nat × Nat) → World → Prop) (W : World)
    (hJa : AbidesFrom W.heap.size J)
    (hY : ∀ pre x W, x.2 < n → J pre W → pre.length < cnt E v E.length → YieldAt Fence.wide 6 Try.prog l #[.int .i64 (x.1 : Nat), .int .i64 (x.2 : Nat)] W fun e W' =>
      (e = .returned (.bool true) ∧ J (pre ++ [x]) W' ∧ Kq (Bg :: Bv :: K.l) W W') ∨ (e = .returned (.bool false) ∧ Jx (pre ++ [x]) W'))
    (hBg : Blk W Bg 27 #[.pointer (some ⟨K.g, 0, none⟩)]) (hBv : Blk W Bv 3 #[.int .i64 (v : Int)]) (hG : Gr W K n E) (h0 : J [] W) :
    CallsIn Fence.wide 7 Try.prog 65 #[.func (.yield l) #[] #[], .pointer (some ⟨Bg, 0, none⟩), .pointer (some ⟨Bv, 0, none⟩)] W fun e W' => (∃ v, e = .returned v) ∧
      ((∃ ys, ys = arL E v ∧ J ys W') ∨ (∃ pre, True ∧ Jx pre W')) := by
  have cg := hBg.cell 0
  have cv := hBv.cell 0
  simp at cg cv
  have xa := at_ok hG hv
  have hm := hG.fine.2.1
  have hcl := cnt_le E v E.length
  have hlen := arL_len E v
  refine callsIn_of_wp Try.func65 rfl trivial ?_ rfl
  simp only [Try.ntmps65, List.size_toArray, List.length_cons, List.length_nil, Nat.reduceAdd, Nat.reduceSub, Array.replicate_succ, Array.replicate_zero, List.push_toArray, List.append_toArray, List.nil_append, List.cons_append]
  gi_wp2_with fail
  refine ⟨trivial, (callsIn_wide.2 xa).mono ?_⟩
  rintro e W1 ⟨o, c, rfl, ho, hqc, hc, nq, rfl⟩
  have hBg : Blk (W.drewN nq) Bg 27 #[.pointer (some ⟨K.g, 0, none⟩)] := hBg
  have hBv : Blk (W.drewN nq) Bv 3 #[.int .i64 (v : Int)] := hBv
  have hG := hG.below (below_drewN (Below.refl _ _) nq)
  have h0 : J [] (W.drewN nq) := hJa _ W _ none h0 (grow_drewN (grow_refl _ _) nq) (fun r e => by cases e)
  have HO := Lib.hid ho
  have HL := Lib.hid hlen
  obtain ⟨q, hq⟩ : ∃ q, cnt E v E.length = q := ⟨_, rfl⟩
  have HQ := Lib.hid hq
  rw [hq] at hcl hqc hlen hY
  rw [hq]
  clear cg cv xa hq ho
  generalize W.drewN nq = W0 at *
  gi_wp2_with fail
  gi_loopg [5, 6, 7, 12] q (fun k _ _ _ p wr => ∃ (t : Nat), k = q - t ∧ p = .int .i64 t ∧ t ≤ q ∧ J ((arL E v).take t) wr ∧ Gr wr K n E ∧ Blk wr Bg 27 #[.pointer (some ⟨K.g, 0, none⟩)] ∧ Blk wr Bv 3 #[.int .i64 (v : Int)])
  case atStart => exact ⟨0, rfl, rfl, Nat.zero_le _, h0, hG, hBg, hBv⟩
  case round =>
    clear hBg hBv hG h0
    obtain ⟨t, rfl, rfl, ht, hJ, hG, hBg, hBv⟩ := hrel
    have cg := hBg.cell 0
    have cv := hBv.cell 0
    simp at cg cv
    by_cases hlt : t < q
    · have htq : (t : Int) < (q : Int) := by omega
      obtain ⟨L, hL1, hL2⟩ := hG.list
      have hoe := HO.out (by have := HQ.out; omega)
      have hmem := inc_get E v (t := t) (by rw [HQ.out]; exact hlt)
      obtain ⟨i, hi⟩ : ∃ i, (inc E v E.length).getD t 0 = i := ⟨_, rfl⟩
      have hc9 : wr.cell? ⟨K.gl, o + t, none⟩ = some (.int .i64 (i : Nat)) := by
        have h1 := hL2 v hv t (by rw [HQ.out]; exact hlt)
        have h2 := off_le E (v + 1)
        have h3 : off E (v + 1) = off E v + cnt E v E.length := rfl
        have := hL1.cell (i := off E v + t) (by have := HQ.out; omega)
        rw [h1, hi] at this
        rw [hoe]
        exact this
      rw [hi] at hmem
      obtain ⟨him, hhit⟩ := hmem
      obtain ⟨g1, g2, W9, g3, _⟩ := hG.es i him
      have HT := Lib.hid (arL_take E v (t := t) (by rw [HQ.out]; exact hlt) hi)
      obtain ⟨_, A, ce, M, c1, _, _, _, hce, hce2, hA⟩ := hG.cells
      have hA := hA (by omega)
      subst hA
      have hen := hG.edge him
      obtain ⟨eu, hu⟩ : ∃ u, (edge E i).1 = u := ⟨_, rfl⟩
      obtain ⟨ev, hv'⟩ : ∃ u, (edge E i).2 = u := ⟨_, rfl⟩
      have HOT := Lib.hid (show other (edge E i) v = if ev = v then eu else ev from by unfold other; rw [hu, hv'])
      rw [hu] at g1 hen
      rw [hv'] at g2 hen
      have him2 : (i : Int) < (E.length : Int) := by omega
      clear hL1 hL2 hoe hi hhit hu hv'
      have hl2 : ((arL E v).take t).length < q := by rw [List.length_take]; omega
      have hJ2 : J ((arL E v).take t) (wr.alloc (.cells #[.int .i64 (eu : Int), .int .i64 (ev : Int), .int .i64 W9] 47)) := hJa _ _ _ none hJ (World.grownBy_alloc _ _ none) (fun r e => by cases e)
      have cv2 := (hBv.alloc (.cells #[.int .i64 (eu : Int), .int .i64 (ev : Int), .int .i64 W9] 47)).cell 0
      simp at cv2
      have hG2 := hG.below (below_new1 wr (.cells #[.int .i64 (eu : Int), .int .i64 (ev : Int), .int .i64 W9] 47))
      clear hG hJ
      by_cases hev : ev = v
      · have hev1 : ((ev : Int) == (v : Int)) = true := by rw [hev]; simp
        have HEV := Lib.hid hev
        clear hev
        obtain ⟨fn, tmps, assign, body, hy, hR⟩ := hY ((arL E v).take t) (i, eu) _ hen.1 hJ2 hl2
        clear hJ2 hl2 him
        gi_wp2_with fail
        refine hR.mono ?_
        rintro e W3 (⟨rfl, hJ3, hk⟩ | ⟨rfl, hJx3⟩)
        · have hBg3 : Blk W3 Bg 27 #[.pointer (some ⟨K.g, 0, none⟩)] := (hk.2 Bg (by simp)).trans (hBg.alloc _)
          have hBv3 : Blk W3 Bv 3 #[.int .i64 (v : Int)] := (hk.2 Bv (by simp)).trans (hBv.alloc _)
          have hG3 := hG2.heap (fun k hkk => hk.2 k (by simp [hkk])) hk.1
          clear hk hy hR
          gi_wp2_with fail
          go_roundg (q - (t + 1))
          case measure => omega
          case rel => exact ⟨t + 1, rfl, by simp, by omega, by rw [HT.out, HOT.out, if_pos HEV.out]; exact hJ3, hG3, hBg3, hBv3⟩
        · gi_wp2_with fail
          refine bodyPost_ret (results_none rfl _ _ _) rfl ?_
          exact ⟨⟨_, rfl⟩, .inr ⟨_, trivial, hJx3⟩⟩
      · have hev1 : ((ev : Int) == (v : Int)) = false := by rw [beq_eq_false_iff_ne]; omega
        have HEV := Lib.hid hev
        clear hev
        obtain ⟨fn, tmps, assign, body, hy, hR⟩ := hY ((arL E v).take t) (i, ev) _ hen.2.1 hJ2 hl2
        clear hJ2 hl2 him
        gi_wp2_with fail
        refine hR.mono ?_
        rintro e W3 (⟨rfl, hJ3, hk⟩ | ⟨rfl, hJx3⟩)
        · have hBg3 : Blk W3 Bg 27 #[.pointer (some ⟨K.g, 0, none⟩)] := (hk.2 Bg (by simp)).trans (hBg.alloc _)
          have hBv3 : Blk W3 Bv 3 #[.int .i64 (v : Int)] := (hk.2 Bv (by simp)).trans (hBv.alloc _)
          have hG3 := hG2.heap (fun k hkk => hk.2 k (by simp [hkk])) hk.1
          clear hk hy hR
          gi_wp2_with fail
          go_roundg (q - (t + 1))
          case measure => omega
          case rel => exact ⟨t + 1, rfl, by simp, by omega, by rw [HT.out, HOT.out, if_neg HEV.out]; exact hJ3, hG3, hBg3, hBv3⟩
        · gi_wp2_with fail
          refine bodyPost_ret (results_none rfl _ _ _) rfl ?_
          exact ⟨⟨_, rfl⟩, .inr ⟨_, trivial, hJx3⟩⟩
    · have etq : q = t := by omega
      subst etq
      have htq : ¬ (q : Int) < (q : Int) := by omega
      have HJ := Lib.hid hJ
      clear hJ
      gi_wp2_with fail
      go_end0
      exact ⟨⟨_, rfl⟩, .inl (by have := HJ.out; rwa [List.take_of_length_le (by rw [HL.out, HQ.out]; exact Nat.le_refl _)] at this)⟩
/-- what Around hands over -/
abbrev EO (n : Nat) := { x : Nat × Nat // x.2 < n }
theorem around7_stops (Bg Bv v n : Nat) (K : GB) (E : Es) (hv : v < n) (w : World) (hBg : Blk w Bg 27 #[.pointer (some ⟨K.g, 0, none⟩)]) (hBv : Blk w Bv 3 #[.int .i64 (v : Int)]) (hG : Gr w K n E) :
    SeqStopsK Fence.wide 7 Try.prog 65 #[.pointer (some ⟨Bg, 0, none⟩), .pointer (some ⟨Bv, 0, none⟩)] (fun x : EO n => #[.int .i64 (x.1.1 : Nat), .int .i64 (x.1.2 : Nat)]) (Kq (Bg :: Bv :: K.l)) (fun ys => ys.map (·.1) = arL E v) (fun _ => True) (cnt E v E.length) w := fun l J Jx W hW hJa _ hY h0 => by
  refine (around7_in l Bg Bv v n K E hv (fun pre W => ∃ pre' : List (EO n), pre'.map (·.1) = pre ∧ J pre' W) (fun _ W => ∃ pre', Jx pre' W) W (fun s A A' row ⟨p, e, h⟩ hg hr => ⟨p, e, hJa p A A' row h hg hr⟩) ?_ (hBg.below hW hBg.lt) (hBv.below hW hBv.lt) (hG.below hW) ⟨[], rfl, h0⟩).mono ?_
  · rintro pre x W1 hx ⟨p, rfl, hj⟩ hl
    refine (hY p ⟨x, hx⟩ W1 hj (by simpa using hl)).mono ?_
    rintro e W' (⟨h1, h2, h3⟩ | ⟨h1, h2⟩)
    · exact .inl ⟨h1, ⟨p ++ [⟨x, hx⟩], by simp, h2⟩, h3⟩
    · exact .inr ⟨h1, _, h2⟩
  · rintro e W' ⟨hv, ⟨ys, rfl, p, hp, hj⟩ | ⟨pre, _, p, hj⟩⟩
    · exact ⟨hv, .inl ⟨p, hp, hj⟩⟩
    · exact ⟨hv, .inr ⟨p, trivial, hj⟩⟩
end Go.Proofs.Ytoiafopndlnknaa
