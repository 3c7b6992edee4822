/-
  Classes, walked.
-/
import Derived.Test.YtipniooflaiikaaF4
import Derived.Test.YtipniooflaiikaaA5
set_option linter.unusedVariables false
set_option linter.unusedSimpArgs false
namespace Go.Proofs.Ytipniooflaiikaa
open Go.RowKit Go.Shelf

theorem rows_len (a : Nat → Nat) (m i : Nat) : (rows a m i).length = (heads a m).length := by unfold rows; rw [List.length_map]
theorem own22_cell {w : World} {B g cap k n : Nat} {ss : List Value} {v : Value} (h : w.ownsRow B 22 1 (.slice (some ⟨g, 0, none⟩) n cap) n ss) (hk : ss[k]? = some v) : w.cell? ⟨g, k, none⟩ = some v := by
  have := World.ownsRow.cells h (g := g) rfl k v hk
  rw [Addr.add_lit] at this
  simpa using this
theorem own22_frozen {w : World} {B g cap n : Nat} {ss : List Value} (h : w.ownsRow B 22 1 (.slice (some ⟨g, 0, none⟩) n cap) n ss) (k : Nat) : w.frozen? ⟨g, k, none⟩ = false := by
  rcases h.2 with ⟨h0, _⟩ | ⟨g', cap', cur, hv, _, hh, _⟩
  · cases h0
  · cases hv
    exact Blk.frozen (w := w) (g := g) (t := 22) (cs := cur) hh k
theorem RowF.grown2 {k : IntKind} {w w' : World} {g e n : Nat} {f : Nat → Int} {row : Option Nat} (h : RowF k w g e n f) (hg : w.grownBy w' row) (hne : some g ≠ row) : RowF k w' g e n f := by
  obtain ⟨cs, h1, h2⟩ := h
  exact ⟨cs, (hg.block g h1.lt hne).trans h1, h2⟩
set_option maxRecDepth 100000 in
set_option maxHeartbeats 4000000 in
theorem classes_ok (n c : Nat) (A : Option Addr) (z : Nat → Int) (w : World) (ha : ArgI .i64 w A n c z) (hn : n ≤ 1000) :
    Calls Try.prog 33 #[.slice A n c] w fun e w' => ∃ B, w.heap.size ≤ B ∧ (((¬ CanZ z n ∧ e = .returned (.tuple #[.slice none 0 0, .int .i64 2])) ∨
      (∃ (a : Nat → Nat) (vo : Value) (ss : List Value), Can a n ∧ (∀ i, i < n → z i = (a i : Int)) ∧ e = .returned (.tuple #[vo, .int .i64 0]) ∧ Cls w' B vo (cls a n n) ss)) ∧ Below w.heap.size w w') := by
  have x0 := check_ok n c A z w ha
  have hn63 := ha.2.1
  have hnc := ha.1
  have hmk := run_make22 n (by omega) w
  go_enter Try.func33, Try.ntmps33
  go_wp2_with fail
  refine x0.mono ?_
  rintro e w0 ⟨⟨rfl, h1⟩ | ⟨rfl, h1⟩, rfl⟩
  case inr =>
    have H1 := Lib.hid h1
    clear h1
    go_wp2_with fail
    go_ret2
    exact ⟨w.heap.size, Nat.le_refl _, Or.inl ⟨H1.out, rfl⟩, Below.refl _ _⟩
  obtain ⟨a, hca, ea⟩ := h1.nat
  have HCA := Lib.hid hca
  have HE := Lib.hid ea
  clear h1 hca ea x0
  have r0 : RowN (w.alloc (.cells (zerosK .i64 n) 3)) w.heap.size n (fun _ => 0) := (RowF.new .i64 w 3 n).congr (fun i _ => rfl)
  have b0 := below_new1 w (.cells (zerosK .i64 n) 3)
  go_upto_region 6 with fail
  generalize w.alloc (.cells (zerosK .i64 n) 3) = W at *
  generalize hg : w.heap.size = gA at *
  clear hmk
  go_wp2_with fail
  go_loopw [5, 7, 8, 9, 20] (fun vo _ _ _ vi wr => ∃ (i d1 : Nat) (A1 : Option Addr) (ss : List Value) (f : Nat → Nat), vi = .int .i64 i ∧ i ≤ n ∧ vo = .slice A1 (rows a i i).length d1 ∧ Cls wr (gA + 1) (.slice A1 (rows a i i).length d1) (rows a i i) ss ∧ Apart ss ∧ RowN wr gA n f ∧ Hid (∀ r, r < i → a r = r → (heads a i)[f r]? = some r) ∧ Below gA w wr) (fun _ _ _ _ vi _ => n - (intOf vi).toNat)
  case atStart => exact ⟨0, 0, none, [], fun _ => 0, rfl, Nat.zero_le _, rfl, Cls.nil _ _, Apart.nil, r0, Lib.hid (fun r h => by omega), b0⟩
  case round =>
    clear r0 b0
    obtain ⟨i, d1, A1, ss, f, rfl, hi, rfl, hC, hAp, hr, HF, q⟩ := hrel
    by_cases hlt : i < n
    · have hin : (i : Int) < (n : Int) := by omega
      have ha1 := ha.below (show Below w.heap.size w wr by rw [hg]; exact q)
      obtain ⟨g, o, rfl, hgg, hc⟩ := ha1.2.2.1 (by omega)
      have ci := hc i hlt
      rw [HE.out i hlt] at ci
      obtain ⟨l, hl⟩ : ∃ l, a i = l := ⟨_, rfl⟩
      rw [hl] at ci
      have hli := (HCA.out i hlt).1
      have hll := (HCA.out i hlt).2
      rw [hl] at hli hll
      have hgs0 := RowF.lt hr
      have HL := Lib.hid hl
      clear hl hc ha1 hgg
      by_cases hlie : l = i
      · subst hlie
        obtain ⟨m0, hm0⟩ : ∃ m0, (rows a l l).length = m0 := ⟨_, rfl⟩
        have hm1 : (heads a l).length = m0 := by rw [← hm0, rows_len]
        have rc := RowF.cell hr hlt
        have rz := RowF.frozen hr l
        have R1 := RowF.set_n hr l m0
        have hC1 := hC.far (p := ⟨gA, l, none⟩) (by show gA < gA + 1; omega) (.int .i64 (m0 : Int))
        have Q1 := q.setCell (p := ⟨gA, l, none⟩) (Nat.le_refl _) (.int .i64 (m0 : Int))
        have hcl := cls_len a l l
        rw [← rows_cls, hm0] at hcl
        have hRP := rows_push HCA.out hlt HL.out
        have HF2 := Lib.hid (show ∀ r, r < l + 1 → a r = r → (heads a (l + 1))[upd f l m0 r]? = some r from fun r h1 h2 => by
          rw [heads_root HL.out]
          rcases Nat.lt_or_ge r l with h3 | h3
          · rw [upd_ne _ _ (by omega)]
            have := HF.out r h3 h2
            rw [List.getElem?_append_left (List.getElem?_eq_some_iff.1 this).1]
            exact this
          · obtain rfl : r = l := by omega
            rw [upd_at, List.getElem?_append_right (by omega), hm1, Nat.sub_self]
            rfl)
        rw [hm0] at hC1 ⊢
        have wsz : (wr.setCell ⟨gA, l, none⟩ (.int .i64 (m0 : Int))).heap.size = wr.heap.size := by simp
        have oB := below_new1 (wr.setCell ⟨gA, l, none⟩ (.int .i64 (m0 : Int))) (.cells #[.slice none 0 0] 22)
        have hC2 := hC1.below oB
        have R2 := RowF.alloc R1 (.cells #[.slice none 0 0] 22)
        have Q2 := Q1.alloc (by omega) (.cells #[.slice none 0 0] 22)
        have kB := Blk.new (wr.setCell ⟨gA, l, none⟩ (.int .i64 (m0 : Int))) 22 #[.slice none 0 0]
        rw [wsz] at kB
        have HKC2 := Lib.hid (show ((wr.setCell ⟨gA, l, none⟩ (.int .i64 (m0 : Int))).alloc (.cells #[.slice none 0 0] 22)).cell? ⟨wr.heap.size, 0, none⟩ = some (.slice none 0 0) from kB.cell 0)
        have hz2 : gA + 1 ≤ ((wr.setCell ⟨gA, l, none⟩ (.int .i64 (m0 : Int))).alloc (.cells #[.slice none 0 0] 22)).heap.size := by simp; omega
        have hb2 := hC2.base
        have fin2 : ∀ (v' : Value) (w3 : World), Cls w3 (gA + 1) v' (rows a l l ++ [[]]) (ss ++ [.slice none 0 0]) → ((wr.setCell ⟨gA, l, none⟩ (.int .i64 (m0 : Int))).alloc (.cells #[.slice none 0 0] 22)).grownBy w3 (Value.slice A1 m0 d1).ownBlock → ∃ A2 d2, v' = .slice A2 (rows a (l + 1) l).length d2 ∧ Cls w3 (gA + 1) (.slice A2 (rows a (l + 1) l).length d2) (rows a (l + 1) l) (ss ++ [.slice none 0 0]) ∧ RowN w3 gA n (upd f l m0) ∧ Below gA w w3 := fun v' w3 h1 h2 => by
          rw [← hRP] at h1
          have e : ∃ A2 d2, v' = .slice A2 (rows a (l + 1) l).length d2 := by
            rcases h1.1.2 with ⟨h0, h3⟩ | ⟨g', cap, cur, h0, _⟩
            · exact ⟨none, 0, by rw [h0, h3]⟩
            · exact ⟨_, _, h0⟩
          obtain ⟨A2, d2, rfl⟩ := e
          exact ⟨A2, d2, rfl, h1, RowF.grown2 R2 h2 (fun e => by have := hb2 gA e.symm; omega), Q2.grown h2 (by omega) (fun b hb => by have := hb2 b hb; omega)⟩
        have FIN2 := Lib.hid fin2
        have hAp2 := hAp.push
        clear fin2 hC hC1 hRP kB hm1 R1 Q1 hb2
        go_upto_region 12 with (at_builtin; refine wpList_append_row rfl _ _ rfl (gA + 1) (.slice A1 m0 d1) (.slice none 0 0) (rows a l l) ss [] wr.heap.size rfl hC2 rfl HKC2.out rfl (RowL.nil _ _) (by omega) hz2 ?_; intro v' w3 h1 h2; obtain ⟨A2, d2, rfl, hC3, hr3, q3⟩ := FIN2.out v' w3 h1 h2; clear h1 h2)
        clear rc rz
        obtain ⟨k, hkk⟩ : ∃ k, upd f l m0 l = k := ⟨_, rfl⟩
        have hk : (heads a (l + 1))[k]? = some l := by rw [← hkk]; exact HF2.out l (by omega) hll
        have hkl : k < (rows a (l + 1) l).length := by unfold rows; rw [List.length_map]; exact (List.getElem?_eq_some_iff.1 hk).1
        have hx : (rows a (l + 1) l)[k]? = some (mem (fun j => decide (a j = l)) l) := by unfold rows; rw [List.getElem?_map, hk]; rfl
        obtain ⟨v, hv⟩ : ∃ v, (ss ++ [Value.slice none 0 0])[k]? = some v := ⟨_, List.getElem?_eq_getElem (by rw [hC3.2.1]; exact hkl)⟩
        have hrow := hC3.2.2 k v _ hv hx
        obtain ⟨A3, d3, e3, _⟩ := hrow.arg (fun x hx => by have := mem_lt hx; omega)
        subst e3
        obtain ⟨go, e4⟩ : ∃ go, A2 = some ⟨go, 0, none⟩ := by
          rcases hC3.1.2 with ⟨_, h0⟩ | ⟨g, cap, cur, h0, _⟩
          · omega
          · cases h0; exact ⟨g, rfl⟩
        subst e4
        have hC := hC3
        rw [show (mem (fun j => decide (a j = l)) l).length = (mem (fun j => decide (a j = l)) l).length from rfl] at hv
        have cat := RowF.cell hr3 (i := l) (by omega)
        rw [hkk] at cat
        have cgo := hC.cell hv
        have hlen := mem_len (fun j => decide (a j = l)) l
        have o1 := below_new1 w3 (.cells #[.int .i64 (l : Int)] 3)
        have hCA := hC.below o1
        have hRA := hrow.below o1
        have HKC := Lib.hid (show (w3.alloc (.cells #[.int .i64 (l : Int)] 3)).cell? ⟨w3.heap.size, 0, none⟩ = some (.int .i64 (l : Int)) from (Blk.new w3 3 #[.int .i64 (l : Int)]).cell 0)
        have hgs := RowF.lt hr3
        have hzA : gA + 1 ≤ (w3.alloc (.cells #[.int .i64 (l : Int)] 3)).heap.size := by simp; omega
        have qA := q3.alloc (by omega) (.cells #[.int .i64 (l : Int)] 3)
        have rA := RowF.alloc hr3 (.cells #[.int .i64 (l : Int)] 3)
        have hki : (k : Int) < ((rows a (l + 1) l).length : Int) := by omega
        have hbase := hRA.base
        have hqs : gA ≤ (w3.alloc (.cells #[.int .i64 (l : Int)] 3)).heap.size := by omega
        have fin : ∀ (v' : Value) (w9 : World), RowL w9 (gA + 1) v' (mem (fun j => decide (a j = l)) l ++ [l]) → (w3.alloc (.cells #[.int .i64 (l : Int)] 3)).grownBy w9 (Value.slice A3 (mem (fun j => decide (a j = l)) l).length d3).ownBlock → (v'.ownBlock = (Value.slice A3 (mem (fun j => decide (a j = l)) l).length d3).ownBlock ∨ v'.ownBlock = some (w3.alloc (.cells #[.int .i64 (l : Int)] 3)).heap.size) →
            (∃ A4 k4 d4, v' = .slice A4 k4 d4) ∧ w9.cell? ⟨go, k, none⟩ = some (.slice A3 (mem (fun j => decide (a j = l)) l).length d3) ∧ w9.frozen? ⟨go, k, none⟩ = false ∧ gA ≤ go ∧ Below gA w w9 ∧ RowN w9 gA n (upd f l m0) ∧ (gA ≠ go) ∧ Cls (w9.setCell ⟨go, k, none⟩ v') (gA + 1) (.slice (some ⟨go, 0, none⟩) (rows a (l + 1) (l + 1)).length d2) (rows a (l + 1) (l + 1)) ((ss ++ [Value.slice none 0 0]).set k v') ∧ Apart ((ss ++ [Value.slice none 0 0]).set k v') := fun v' w9 h1 h2 h3 => by
          have oo := World.ownsRow.kept hCA.1 h2 (own_apart hCA.1 hRA (by decide))
          have P := Cls.put hCA hAp2 hv hx h2 h1 h3
          have hgo := (World.ownsRow.lt hCA.1 go rfl).1
          have rs := rows_set (a := a) (i := l) (k := k) (by rw [HL.out]; exact hk)
          rw [HL.out] at rs
          rw [rs] at P
          rw [show (rows a (l + 1) (l + 1)).length = (rows a (l + 1) l).length by rw [rows_len, rows_len]]
          obtain ⟨A4, d4, e4, _⟩ := h1.arg (fun x hx => by
            rcases List.mem_append.1 hx with hx | hx
            · have := mem_lt hx; omega
            · have := List.mem_singleton.1 hx; omega)
          exact ⟨⟨A4, _, d4, e4⟩, own22_cell oo hv, own22_frozen oo k, by omega, qA.grown h2 hqs (fun b hb => by have := hbase b hb; omega), RowF.grown2 rA h2 (fun e => by have := hbase gA e.symm; omega), by omega, P.1, P.2⟩
        have FIN := Lib.hid fin
        have HF2b := HF2
        obtain ⟨M, hM⟩ : ∃ M, (rows a (l + 1) l).length = M := ⟨_, rfl⟩
        have HM := Lib.hid (show M = (rows a (l + 1) (l + 1)).length by rw [← hM, rows_len, rows_len])
        rw [hM] at hkl hki ⊢
        have hln : (l : Int) < (n : Int) := by omega
        clear fin hC hrow hx hv hk hCA hbase hM HF2
        go_wp2_with (at_builtin; refine wpList_append_num_at rfl _ _ rfl (gA + 1) (.slice A3 (mem (fun j => decide (a j = l)) l).length d3) _ l w3.heap.size rfl hRA rfl HKC.out (by omega) hzA ?_; intro v' w9 h1 h2 h3; obtain ⟨⟨A4, k4, d4, rfl⟩, c1, c2, c3, c4, c5, c6, c7, c8⟩ := FIN.out v' w9 h1 h2 h3; clear h1 h2 h3)
        have R := RowF.far c5 (p := ⟨go, k, none⟩) c6 (.slice A4 k4 d4)
        have Q := c4.setCell (p := ⟨go, k, none⟩) c3 (.slice A4 k4 d4)
        rw [HM.out]
        go_roundw
        case rel => exact ⟨l + 1, d2, some ⟨go, 0, none⟩, (ss ++ [Value.slice none 0 0]).set k (.slice A4 k4 d4), (upd f l m0), by simp, by omega, rfl, c7, c8, R, HF2b, Q⟩
        case measure => simp [intOf]; omega
      · have HF2 := Lib.hid (show ∀ r, r < i + 1 → a r = r → (heads a (i + 1))[f r]? = some r from fun r h1 h2 => by
          rw [heads_same (by rw [HL.out]; exact hlie)]
          refine HF.out r ?_ h2
          rcases Nat.lt_or_ge r i with h3 | h3
          · exact h3
          · obtain rfl : r = i := by omega
            rw [HL.out] at h2; exact absurd h2 hlie)
        have hRE : rows a (i + 1) i = rows a i i := by unfold rows; rw [heads_same (by rw [HL.out]; exact hlie)]
        rw [← hRE] at hC ⊢
        have hne : ((l : Int) == (i : Int)) = false := by simp; omega
        obtain ⟨k, hkk⟩ : ∃ k, f l = k := ⟨_, rfl⟩
        have hk : (heads a (i + 1))[k]? = some l := by rw [← hkk]; exact HF2.out l (by omega) hll
        have hkl : k < (rows a (i + 1) i).length := by unfold rows; rw [List.length_map]; exact (List.getElem?_eq_some_iff.1 hk).1
        have hx : (rows a (i + 1) i)[k]? = some (mem (fun j => decide (a j = l)) i) := by unfold rows; rw [List.getElem?_map, hk]; rfl
        obtain ⟨v, hv⟩ : ∃ v, ss[k]? = some v := ⟨_, List.getElem?_eq_getElem (by rw [hC.2.1]; exact hkl)⟩
        have hrow := hC.2.2 k v _ hv hx
        obtain ⟨A3, d3, e3, _⟩ := hrow.arg (fun x hx => by have := mem_lt hx; omega)
        subst e3
        obtain ⟨go, e4⟩ : ∃ go, A1 = some ⟨go, 0, none⟩ := by
          rcases hC.1.2 with ⟨_, h0⟩ | ⟨g, cap, cur, h0, _⟩
          · omega
          · cases h0; exact ⟨g, rfl⟩
        subst e4
        have hC := hC
        rw [show (mem (fun j => decide (a j = l)) i).length = (mem (fun j => decide (a j = l)) i).length from rfl] at hv
        have cat := RowF.cell hr (i := l) (by omega)
        rw [hkk] at cat
        have cgo := hC.cell hv
        have hlen := mem_len (fun j => decide (a j = l)) i
        have o1 := below_new1 wr (.cells #[.int .i64 (i : Int)] 3)
        have hCA := hC.below o1
        have hRA := hrow.below o1
        have HKC := Lib.hid (show (wr.alloc (.cells #[.int .i64 (i : Int)] 3)).cell? ⟨wr.heap.size, 0, none⟩ = some (.int .i64 (i : Int)) from (Blk.new wr 3 #[.int .i64 (i : Int)]).cell 0)
        have hgs := RowF.lt hr
        have hzA : gA + 1 ≤ (wr.alloc (.cells #[.int .i64 (i : Int)] 3)).heap.size := by simp; omega
        have qA := q.alloc (by omega) (.cells #[.int .i64 (i : Int)] 3)
        have rA := RowF.alloc hr (.cells #[.int .i64 (i : Int)] 3)
        have hki : (k : Int) < ((rows a (i + 1) i).length : Int) := by omega
        have hbase := hRA.base
        have hqs : gA ≤ (wr.alloc (.cells #[.int .i64 (i : Int)] 3)).heap.size := by omega
        have fin : ∀ (v' : Value) (w3 : World), RowL w3 (gA + 1) v' (mem (fun j => decide (a j = l)) i ++ [i]) → (wr.alloc (.cells #[.int .i64 (i : Int)] 3)).grownBy w3 (Value.slice A3 (mem (fun j => decide (a j = l)) i).length d3).ownBlock → (v'.ownBlock = (Value.slice A3 (mem (fun j => decide (a j = l)) i).length d3).ownBlock ∨ v'.ownBlock = some (wr.alloc (.cells #[.int .i64 (i : Int)] 3)).heap.size) →
            (∃ A4 k4 d4, v' = .slice A4 k4 d4) ∧ w3.cell? ⟨go, k, none⟩ = some (.slice A3 (mem (fun j => decide (a j = l)) i).length d3) ∧ w3.frozen? ⟨go, k, none⟩ = false ∧ gA ≤ go ∧ Below gA w w3 ∧ RowN w3 gA n f ∧ (gA ≠ go) ∧ Cls (w3.setCell ⟨go, k, none⟩ v') (gA + 1) (.slice (some ⟨go, 0, none⟩) (rows a (i + 1) (i + 1)).length d1) (rows a (i + 1) (i + 1)) (ss.set k v') ∧ Apart (ss.set k v') := fun v' w3 h1 h2 h3 => by
          have oo := World.ownsRow.kept hCA.1 h2 (own_apart hCA.1 hRA (by decide))
          have P := Cls.put hCA hAp hv hx h2 h1 h3
          have hgo := (World.ownsRow.lt hCA.1 go rfl).1
          have rs := rows_set (a := a) (i := i) (k := k) (by rw [HL.out]; exact hk)
          rw [HL.out] at rs
          rw [rs] at P
          rw [show (rows a (i + 1) (i + 1)).length = (rows a (i + 1) i).length by rw [rows_len, rows_len]]
          obtain ⟨A4, d4, e4, _⟩ := h1.arg (fun x hx => by
            rcases List.mem_append.1 hx with hx | hx
            · have := mem_lt hx; omega
            · have := List.mem_singleton.1 hx; omega)
          exact ⟨⟨A4, _, d4, e4⟩, own22_cell oo hv, own22_frozen oo k, by omega, qA.grown h2 hqs (fun b hb => by have := hbase b hb; omega), RowF.grown2 rA h2 (fun e => by have := hbase gA e.symm; omega), by omega, P.1, P.2⟩
        have FIN := Lib.hid fin
        have HF2b := HF2
        obtain ⟨M, hM⟩ : ∃ M, (rows a (i + 1) i).length = M := ⟨_, rfl⟩
        have HM := Lib.hid (show M = (rows a (i + 1) (i + 1)).length by rw [← hM, rows_len, rows_len])
        rw [hM] at hkl hki ⊢
        have hln : (l : Int) < (n : Int) := by omega
        clear fin hC hrow hx hv hk hCA hbase hM HF2
        go_wp2_with (at_builtin; refine wpList_append_num_at rfl _ _ rfl (gA + 1) (.slice A3 (mem (fun j => decide (a j = l)) i).length d3) _ i wr.heap.size rfl hRA rfl HKC.out (by omega) hzA ?_; intro v' w3 h1 h2 h3; obtain ⟨⟨A4, k4, d4, rfl⟩, c1, c2, c3, c4, c5, c6, c7, c8⟩ := FIN.out v' w3 h1 h2 h3; clear h1 h2 h3)
        have R := RowF.far c5 (p := ⟨go, k, none⟩) c6 (.slice A4 k4 d4)
        have Q := c4.setCell (p := ⟨go, k, none⟩) c3 (.slice A4 k4 d4)
        rw [HM.out]
        go_roundw
        case rel => exact ⟨i + 1, d1, some ⟨go, 0, none⟩, ss.set k (.slice A4 k4 d4), f, by simp, by omega, rfl, c7, c8, R, HF2b, Q⟩
        case measure => simp [intOf]; omega
    · obtain rfl : i = n := by omega
      have HC := Lib.hid hC
      clear hC
      go_wp2_with fail
      go_ret2
      subst hg
      exact ⟨w.heap.size + 1, by omega, Or.inr ⟨a, _, ss, HCA.out, HE.out, rfl, HC.out⟩, q⟩
end Go.Proofs.Ytipniooflaiikaa
