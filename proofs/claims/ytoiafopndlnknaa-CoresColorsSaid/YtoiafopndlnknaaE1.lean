/-
  same; Core; slices.Max.
-/
import Derived.Test.YtoiafopndlnknaaD4
set_option linter.unusedVariables false
set_option linter.unusedSimpArgs false
namespace Go.Proofs.Ytoiafopndlnknaa
open Go.RowKit Go.Shelf

theorem ArgI.congr {k : IntKind} {w : World} {A : Option Addr} {n c : Nat} {z y : Nat → Int} (h : ArgI k w A n c z) (e : ∀ i, i < n → z i = y i) : ArgI k w A n c y := by
  obtain ⟨h1, h2, h3, h4⟩ := h
  refine ⟨h1, h2, fun hn => ?_, fun i hi => by rw [← e i hi]; exact h4 i hi⟩
  obtain ⟨g, o, e', hg, hc⟩ := h3 hn
  exact ⟨g, o, e', hg, fun i hi => by rw [← e i hi]; exact hc i hi⟩
set_option maxRecDepth 100000 in
set_option maxHeartbeats 1000000 in
theorem same_yes (n ca cb : Nat) (A B : Option Addr) (z : Nat → Int) (w : World) (ha : ArgI .i64 w A n ca z) (hb : ArgI .i64 w B n cb z) (hn : n ≤ 100000) :
    Calls Try.prog 23 #[.slice A n ca, .slice B n cb] w fun e w' => e = .returned (.bool true) ∧ ∃ m, w' = w.drewN m := by
  go_enter Try.func23, Try.ntmps23
  go_wp2_with fail
  go_loopw [5] (fun vi wr => ∃ k : Nat, vi = .int .i64 k ∧ k ≤ n ∧ ∃ m, wr = w.drewN m) (fun vi _ => n - (intOf vi).toNat)
  case atStart => exact ⟨0, rfl, Nat.zero_le _, 0, rfl⟩
  case round =>
    obtain ⟨k, rfl, hk, m, rfl⟩ := hrel
    by_cases hlt : k < n
    · obtain ⟨g, o, rfl, hg, hcell⟩ := ha.2.2.1 (by omega)
      obtain ⟨g', o', rfl, hg', hcell'⟩ := hb.2.2.1 (by omega)
      have c1 := hcell k hlt
      have c2 := hcell' k hlt
      have hkn : (k : Int) < (n : Int) := by omega
      have hcn := ha.1
      have hcn' := hb.1
      clear hcell hcell'
      go_wp2_with fail
      go_quiet (fail)
      go_wp2_with fail
      go_roundw
      case rel => exact ⟨k + 1, by simp, by omega, m + nq, by first | rfl | simp⟩
      case measure => simp [intOf]; omega
    · obtain rfl : k = n := by omega
      go_wp2_with fail
      go_ret
      exact ⟨rfl, m, rfl⟩
/-- both lists are the same -/
def SameZ (n m : Nat) (z y : Nat → Int) : Prop := n = m ∧ ∀ j, j < n → z j = y j
set_option maxRecDepth 100000 in
set_option maxHeartbeats 1000000 in
theorem same_any (n m ca cb : Nat) (A B : Option Addr) (z y : Nat → Int) (w : World) (ha : ArgI .i64 w A n ca z) (hb : ArgI .i64 w B m cb y) (hn : n ≤ 100000) :
    Calls Try.prog 23 #[.slice A n ca, .slice B m cb] w fun e w' => ((e = .returned (.bool true) ∧ SameZ n m z y) ∨ (e = .returned (.bool false) ∧ ¬ SameZ n m z y)) ∧ ∃ m, w' = w.drewN m := by
  by_cases hnm : n = m
  · subst hnm
    go_enter Try.func23, Try.ntmps23
    go_wp2_with fail
    go_loopw [5] (fun vi wr => ∃ k : Nat, vi = .int .i64 k ∧ k ≤ n ∧ Hid (∀ j, j < k → z j = y j) ∧ ∃ m, wr = w.drewN m) (fun vi _ => n - (intOf vi).toNat)
    case atStart => exact ⟨0, rfl, Nat.zero_le _, Lib.hid (fun j hj => by omega), 0, rfl⟩
    case round =>
      obtain ⟨k, rfl, hk, HJ, m, rfl⟩ := hrel
      by_cases hlt : k < n
      · obtain ⟨g, o, rfl, hg, hcell⟩ := ha.2.2.1 (by omega)
        obtain ⟨g', o', rfl, hg', hcell'⟩ := hb.2.2.1 (by omega)
        have c1 := hcell k hlt
        have c2 := hcell' k hlt
        have hkn : (k : Int) < (n : Int) := by omega
        have hcn := ha.1
        have hcn' := hb.1
        clear hcell hcell'
        obtain ⟨u, hu⟩ : ∃ u, z k = u := ⟨_, rfl⟩
        obtain ⟨v, hv⟩ : ∃ v, y k = v := ⟨_, rfl⟩
        have HU := Lib.hid (And.intro hu hv)
        rw [hu] at c1
        rw [hv] at c2
        clear hu hv
        by_cases huv : u = v
        · have HJ2 := Lib.hid (show ∀ j, j < k + 1 → z j = y j from fun j hj => by
            rcases Nat.lt_or_ge j k with h1 | h1
            · exact HJ.out j h1
            · obtain rfl : j = k := by omega
              rw [HU.out.1, HU.out.2]; exact huv)
          subst huv
          go_wp2_with fail
          go_quiet (fail)
          go_wp2_with fail
          go_roundw
          case rel => exact ⟨k + 1, by simp, by omega, HJ2, m + nq, by first | rfl | simp⟩
          case measure => simp [intOf]; omega
        · have HD := Lib.hid (show ¬ SameZ n n z y from fun h => huv (by have := h.2 k hlt; rw [HU.out.1, HU.out.2] at this; exact this))
          have huv1 : (u == v) = false := by simpa using huv
          go_wp2_with fail
          go_quiet (fail)
          go_wp2_with fail
          go_ret
          exact ⟨Or.inr ⟨rfl, HD.out⟩, m + nq, by first | rfl | simp⟩
      · obtain rfl : k = n := by omega
        go_wp2_with fail
        go_ret
        exact ⟨Or.inl ⟨rfl, rfl, HJ.out⟩, m, rfl⟩
  · have hnm1 : ((n : Int) == (m : Int)) = false := by simp; omega
    have HD := Lib.hid (show ¬ SameZ n m z y from fun h => hnm h.1)
    have hnm2 : ¬ (n : Int) = (m : Int) := by omega
    clear hnm
    go_enter Try.func23, Try.ntmps23
    go_wp2_with fail
    go_ret
    exact ⟨Or.inr ⟨rfl, HD.out⟩, 0, rfl⟩

/-- the numbers of a list -/
def zl (l : List Int) : Nat → Int := fun i => l.getD i 0
theorem litc (l : List Int) (i : Nat) (hi : i < l.length) : (l.map (Value.int .i64)).toArray[i]? = some (.int .i64 (zl l i)) := by
  unfold zl
  rw [List.getElem?_toArray, List.getElem?_map, List.getD_eq_getElem?_getD, List.getElem?_eq_getElem hi]
  rfl
theorem litf (l : List Int) (h : ∀ x ∈ l, Fits x) (i : Nat) (hi : i < l.length) : Fits (zl l i) := by
  unfold zl
  rw [List.getD_eq_getElem?_getD, List.getElem?_eq_getElem hi]
  exact h _ (List.getElem_mem hi)
theorem litb {w : World} {g : Nat} {cs : Array Value} (l : List Int) (hb : Blk w g 3 cs) (e : cs = (l.map (Value.int .i64)).toArray) (hn : l.length ≤ 1000) (h : ∀ x ∈ l, Fits x) : ArgI .i64 w (some ⟨g, 0, none⟩) l.length l.length (zl l) :=
  argI_row hb (by omega) (fun i hi => by rw [e]; exact litc l i hi) (litf l h)
theorem lit1 (w : World) (cs : Array Value) (l : List Int) (e : cs = (l.map (Value.int .i64)).toArray) (hn : l.length ≤ 1000) (h : ∀ x ∈ l, Fits x) : ArgI .i64 (w.alloc (.cells cs 3)) (some ⟨w.heap.size, 0, none⟩) l.length l.length (zl l) :=
  litb l (Blk.new w 3 cs) e hn h
theorem lit2a (w : World) (cs ds : Array Value) (l : List Int) (e : cs = (l.map (Value.int .i64)).toArray) (hn : l.length ≤ 1000) (h : ∀ x ∈ l, Fits x) : ArgI .i64 ((w.alloc (.cells cs 3)).alloc (.cells ds 3)) (some ⟨w.heap.size, 0, none⟩) l.length l.length (zl l) :=
  litb l ((Blk.new w 3 cs).alloc _) e hn h
theorem lit2b (w : World) (cs ds : Array Value) (l : List Int) (e : ds = (l.map (Value.int .i64)).toArray) (hn : l.length ≤ 1000) (h : ∀ x ∈ l, Fits x) : ArgI .i64 ((w.alloc (.cells cs 3)).alloc (.cells ds 3)) (some ⟨w.heap.size + 1, 0, none⟩) l.length l.length (zl l) :=
  litb l (Blk.new2 w (.cells cs 3) 3 ds) e hn h
/-- same, of a row and a new list -/
theorem known_same (n c : Nat) (A : Option Addr) (l : List Int) (cs : Array Value) (w : World) (ha : ArgI .i64 w A n c (zl l)) (hl : l.length = n) (e : cs = (l.map (Value.int .i64)).toArray) (hn : n ≤ 1000) (hf : ∀ x ∈ l, Fits x) :
    Calls Try.prog 23 #[.slice A n c, .slice (some ⟨w.heap.size, 0, none⟩) n n] (w.alloc (.cells cs 3)) fun e w' => e = .returned (.bool true) ∧ Below w.heap.size w w' := by
  have b := below_new1 w (.cells cs 3)
  have k := lit1 w cs l e (by omega) hf
  rw [hl] at k
  refine (same_yes n c n A _ (zl l) _ (ha.below b) k (by omega)).mono ?_
  rintro e w' ⟨rfl, m, rfl⟩
  exact ⟨rfl, below_drewN b m⟩
/-- a list that came out, as given numbers -/
theorem row_list {w : World} {B : Nat} {v : Value} {l : List Nat} (h : RowL w B v l) (z : List Int) (hl : ∀ x ∈ l, x ≤ 1000000) (e : ∀ i, i < l.length → ((l.getD i 0 : Nat) : Int) = z.getD i 0) : ∃ A c, v = .slice A l.length c ∧ ArgI .i64 w A l.length c (zl z) := by
  obtain ⟨A, c, hv, ha⟩ := h.arg hl
  exact ⟨A, c, hv, ha.congr e⟩
/-- what came out is the same as what one has -/
theorem same_rows {w : World} {l : List Nat} {A A' : Option Addr} {c c' n n' : Nat} (hn : n = l.length) (hn' : n' = l.length) (h : ArgI .i64 w A n c (fun i => ((l.getD i 0 : Nat) : Int))) (h' : ArgI .i64 w A' n' c' (fun i => ((l.getD i 0 : Nat) : Int))) (hl : l.length ≤ 100000) :
    Calls Try.prog 23 #[.slice A n c, .slice A' n' c'] w fun e w' => e = .returned (.bool true) ∧ Below w.heap.size w w' := by
  subst hn
  subst hn'
  refine (same_yes _ c c' A A' _ w h h' hl).mono ?_
  rintro e w' ⟨rfl, m, rfl⟩
  exact ⟨rfl, below_drewN (Below.refl _ _) m⟩
/-- two rows that hold the same list -/
theorem rows_same {w : World} {B B' : Nat} {v v' : Value} {l : List Nat} (h : RowL w B v l) (h' : RowL w B' v' l) (hl : ∀ x ∈ l, x ≤ 1000000) (hn : l.length ≤ 100000) :
    ∃ A A' c c', v = .slice A l.length c ∧ v' = .slice A' l.length c' ∧ Calls Try.prog 23 #[.slice A l.length c, .slice A' l.length c'] w fun e w' => e = .returned (.bool true) ∧ Below w.heap.size w w' := by
  obtain ⟨A, c, hv, ha⟩ := h.arg hl
  obtain ⟨A', c', hv', ha'⟩ := h'.arg hl
  exact ⟨A, A', c, c', hv, hv', same_rows rfl rfl ha ha' hn⟩
theorem peel_d (E : Es) (n : Nat) {x : Nat × Nat} (hx : x ∈ peel E n) (hE : E.length ≤ 16384) : x.2 ≤ 20000 := by
  have key : ∀ k, k ≤ n → ∀ y ∈ (peelN E n k).2, y.2 ≤ 20000 := by
    intro k
    induction k with
    | zero => intro _ y hy; simp [peelN] at hy
    | succ k ih =>
      intro hk y hy
      obtain ⟨v, d, hp, e⟩ := peel_step E n k (by omega)
      rw [e] at hy
      rcases List.mem_append.1 hy with g | g
      · exact ih (by omega) y g
      · simp at g
        subst g
        have := dgK_le E (peelN E n k).1 v E.length
        show d ≤ _
        rw [hp.2.2.1]
        unfold dg
        omega
  exact key n (Nat.le_refl _) x hx
theorem num_le20 (E : Es) (n u : Nat) (hE : E.length ≤ 16384) : num E n u ≤ 20000 := by
  unfold num
  have key : ∀ p : List (Nat × Nat), (∀ x ∈ p.reverse, x.2 ≤ 20000) → (numS p.reverse).1 ≤ 20000 ∧ (numS p.reverse).2 u ≤ 20000 := by
    intro p
    induction p with
    | nil => intro _; exact ⟨Nat.zero_le _, Nat.zero_le _⟩
    | cons x p ih =>
      intro h
      rw [List.reverse_cons] at h ⊢
      rw [numS_snoc]
      obtain ⟨h1, h2⟩ := ih (fun y hy => h y (List.mem_append_left _ hy))
      have h3 := h x (by simp)
      unfold accN
      refine ⟨by show max _ _ ≤ _; omega, ?_⟩
      show (if u = x.1 then max _ _ else _) ≤ _
      split <;> omega
  have := key (peel E n).reverse
  rw [List.reverse_reverse] at this
  exact (this (fun x hx => peel_d E n hx hE)).2
def coreL (E : Es) (n : Nat) (k : Int) : List Nat := (List.range n).filter fun v => decide (k ≤ (num E n v : Nat))
theorem range_snoc_filter (f : Nat → Bool) (i : Nat) : (List.range (i + 1)).filter f = (List.range i).filter f ++ if f i = true then [i] else [] := by
  rw [List.range_succ, List.filter_append]
  congr 1
  by_cases h : f i = true
  · rw [if_pos h, List.filter_cons, if_pos h, List.filter_nil]
  · rw [if_neg h, List.filter_cons, if_neg h, List.filter_nil]
set_option maxRecDepth 100000 in
set_option maxHeartbeats 1000000 in
theorem core_ok {w : World} {K : GB} {n : Nat} {E : Es} (hG : Gr w K n E) (k : Int) :
    Calls Try.prog 19 #[.pointer (some ⟨K.g, 0, none⟩), .int .i64 k] w fun e w' => ∃ v, e = .returned v ∧ RowL w' w.heap.size v (coreL E n k) ∧ Below w.heap.size w w' := by
  have xn := numbers_ok hG
  have hn := hG.fine.1
  have HF := Lib.hid (fun u => num_le20 E n u hG.fine.2.1)
  obtain ⟨f, hf⟩ : ∃ f, num E n = f := ⟨_, rfl⟩
  have HC := Lib.hid (show ∀ i, (List.range (i + 1)).filter (fun v => decide (k ≤ (f v : Nat))) = (List.range i).filter (fun v => decide (k ≤ (f v : Nat))) ++ if decide (k ≤ (f i : Nat)) = true then [i] else [] from fun i => range_snoc_filter _ i)
  have HR := Lib.hid (show coreL E n k = (List.range n).filter (fun v => decide (k ≤ (f v : Nat))) from by unfold coreL; rw [hf])
  rw [hf] at xn HF
  clear hG hf
  go_enter Try.func19, Try.ntmps19
  go_wp2_with fail
  refine xn.mono ?_
  rintro e w1 ⟨gn, rfl, hgn, hR, q1⟩
  go_wp2_with fail
  go_loopw [5, 6, 7, 11] (fun v5 _ _ v wr => ∃ (i : Nat) (A : Option Addr) (m c : Nat), v5 = .slice A m c ∧ v = .int .i64 i ∧ i ≤ n ∧ RowL wr w1.heap.size (.slice A m c) ((List.range i).filter (fun v => decide (k ≤ (f v : Nat)))) ∧ Below w1.heap.size w1 wr) (fun _ _ _ v _ => 20000 - (intOf v).toNat)
  case atStart => exact ⟨0, none, 0, 0, rfl, rfl, Nat.zero_le _, RowL.nil _ _, Below.refl _ _⟩
  case round =>
    obtain ⟨i, A, m, c, rfl, rfl, hi, hr, q⟩ := hrel
    have hRr := hR.below' q
    by_cases hlt : i < n
    · have hin : (i : Int) < (n : Int) := by omega
      have c1 := hRr.cell hlt
      have hle := HF.out i
      obtain ⟨x, hx⟩ : ∃ x, f i = x := ⟨_, rfl⟩
      have HC1 := Lib.hid (HC.out i)
      rw [hx] at c1 hle HC1
      clear hx hRr
      by_cases hk : k ≤ (x : Nat)
      · have HC2 := Lib.hid (show (List.range (i + 1)).filter (fun v => decide (k ≤ (f v : Nat))) = (List.range i).filter (fun v => decide (k ≤ (f v : Nat))) ++ [i] from by have := HC1.out; rwa [if_pos (decide_eq_true hk)] at this)
        have hrA := hr.below (below_new1 wr (.cells #[.int .i64 (i : Int)] 3))
        have KC := Lib.hid (show (wr.alloc (.cells #[.int .i64 (i : Int)] 3)).cell? ⟨wr.heap.size, 0, none⟩ = some (.int .i64 (i : Int)) from (Blk.new wr 3 #[.int .i64 (i : Int)]).cell 0)
        have qA := q.alloc q.size (.cells #[.int .i64 (i : Int)] 3)
        have hl : ((List.range i).filter (fun v => decide (k ≤ (f v : Nat)))).length ≤ 100000 := by
          have := List.length_filter_le (fun v => decide (k ≤ (f v : Nat))) (List.range i)
          rw [List.length_range] at this
          omega
        have hz : w1.heap.size ≤ (wr.alloc (.cells #[.int .i64 (i : Int)] 3)).heap.size := by have := q.size; simp; omega
        have HB := Lib.hid hr.base
        have FIN := Lib.hid (show ∀ (v' : Value) (w3 : World), RowL w3 w1.heap.size v' (((List.range i).filter (fun v => decide (k ≤ (f v : Nat)))) ++ [i]) → (wr.alloc (.cells #[.int .i64 (i : Int)] 3)).grownBy w3 (Value.slice A m c).ownBlock → ∃ A2 m2 c2, v' = .slice A2 m2 c2 ∧ RowL w3 w1.heap.size (.slice A2 m2 c2) ((List.range (i + 1)).filter (fun v => decide (k ≤ (f v : Nat)))) ∧ Below w1.heap.size w1 w3 from fun v' w3 t1 t2 => by
          rw [← HC2.out] at t1
          obtain ⟨A2, c2, rfl⟩ := t1.slice
          exact ⟨A2, _, c2, rfl, t1, qA.grown t2 hz HB.out⟩)
        clear hr q qA
        go_wp2_with (at_builtin; refine wpList_append_num rfl _ _ rfl w1.heap.size (.slice A m c) ((List.range i).filter (fun v => decide (k ≤ (f v : Nat)))) i wr.heap.size rfl hrA rfl KC.out hl hz ?_; intro v' w3 t1 t2; obtain ⟨A2, m2, c2, rfl, t3, t4⟩ := FIN.out v' w3 t1 t2; clear t1 t2)
        go_roundw
        case rel => exact ⟨i + 1, A2, m2, c2, rfl, by simp, by omega, t3, t4⟩
        case measure => simp [intOf]; omega
      · have HC2 := Lib.hid (show (List.range (i + 1)).filter (fun v => decide (k ≤ (f v : Nat))) = ((List.range i).filter (fun v => decide (k ≤ (f v : Nat)))) from by have := HC1.out; rwa [if_neg (by rw [decide_eq_false hk]; simp), List.append_nil] at this)
        go_wp2_with fail
        go_roundw
        case rel => exact ⟨i + 1, A, m, c, rfl, by simp, by omega, by rw [HC2.out]; exact hr, q⟩
        case measure => simp [intOf]; omega
    · have ein : n = i := by omega
      subst ein
      have hin : ¬ (n : Int) < (n : Int) := by omega
      have q2 := below_end q1 q1.size q
      have hs1 := q1.size
      go_wp2_with fail
      go_ret
      rw [HR.out]
      exact ⟨_, rfl, hr.mono hs1, q2⟩
set_option maxRecDepth 100000 in
set_option maxHeartbeats 1000000 in
theorem max_ok (n c : Nat) (A : Option Addr) (f : Nat → Nat) (w : World) (ha : ArgI .i64 w A n c (fun i => (f i : Nat))) (hn : 0 < n) (hn2 : n ≤ 100000) :
    Calls Try.prog 39 #[.slice A n c] w fun e w' => ∃ M, e = .returned (.int .i64 (M : Nat)) ∧ (∃ i, i < n ∧ M = f i) ∧ (∀ i, i < n → f i ≤ M) ∧ w = w' := by
  obtain ⟨g, o, rfl, hg, hcell⟩ := ha.2.2.1 hn
  have HC := Lib.hid hcell
  have c0 := hcell 0 hn
  have hn1 : ¬ (n : Int) < 1 := by omega
  have hn0 : (0 : Int) < (n : Int) := by omega
  have hnc := ha.1
  rw [Nat.add_zero] at c0
  clear hcell ha
  go_enter Try.func39, Try.ntmps39
  go_wp2_with fail
  go_loopw [3, 4] (fun v3 v4 wr => ∃ (i M : Nat), v3 = .int .i64 M ∧ v4 = .int .i64 i ∧ 1 ≤ i ∧ i ≤ n ∧ Hid ((∃ j, j < n ∧ M = f j) ∧ ∀ j, j < i → f j ≤ M) ∧ wr = w) (fun _ v _ => 200000 - (intOf v).toNat)
  case atStart => exact ⟨1, f 0, rfl, rfl, Nat.le_refl _, hn, Lib.hid ⟨⟨0, hn, rfl⟩, fun j hj => by rw [show j = 0 by omega]; exact Nat.le_refl _⟩, rfl⟩
  case round =>
    obtain ⟨i, M, rfl, rfl, h1, hi, HM, rfl⟩ := hrel
    by_cases hlt : i < n
    · have hin : (i : Int) < (n : Int) := by omega
      have c1 := HC.out i hlt
      obtain ⟨x, hx⟩ : ∃ x, f i = x := ⟨_, rfl⟩
      have HX := Lib.hid hx
      rw [hx] at c1
      have hmax : max (M : Int) (x : Int) = ((max M x : Nat) : Int) := by omega
      have HN := Lib.hid (show (∃ j, j < n ∧ max M x = f j) ∧ ∀ j, j < i + 1 → f j ≤ max M x from by
        obtain ⟨⟨j, hj, e⟩, h⟩ := HM.out
        refine ⟨?_, fun k hk => ?_⟩
        · rcases Nat.le_total M x with g | g
          · exact ⟨i, hlt, by rw [hx]; omega⟩
          · exact ⟨j, hj, by rw [← e]; omega⟩
        · rcases Nat.lt_or_ge k i with g | g
          · have := h k g; omega
          · obtain rfl : k = i := by omega
            rw [hx]; omega)
      obtain ⟨M2, hM2⟩ : ∃ M2, max M x = M2 := ⟨_, rfl⟩
      rw [hM2] at hmax HN
      clear hx hM2
      go_wp2_with fail
      go_roundw
      case rel => exact ⟨i + 1, M2, by simp [hmax], by simp, by omega, by omega, HN, by simp⟩
      case measure => simp [intOf]; omega
    · have ein : n = i := by omega
      subst ein
      have hin : ¬ (n : Int) < (n : Int) := by omega
      go_wp2_with fail
      go_ret
      exact ⟨M, rfl, HM.out.1, HM.out.2, rfl⟩
end Go.Proofs.Ytoiafopndlnknaa
