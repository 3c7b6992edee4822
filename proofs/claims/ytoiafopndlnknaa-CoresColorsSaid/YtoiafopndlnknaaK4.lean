/-
  The document's Colors.
-/
import Derived.Test.YtoiafopndlnknaaK3
set_option linter.unusedVariables false
set_option linter.unusedSimpArgs false
namespace Go.Proofs.Ytoiafopndlnknaa
open Go.RowKit Go.Shelf

theorem drop_rev {l : List Nat} {j : Nat} (h : j < l.length) : (l.drop j).reverse = (l.drop (j + 1)).reverse ++ [l.getD j 0] := by
  rw [List.drop_eq_getElem_cons h, List.reverse_cons, List.getD_eq_getElem?_getD, List.getElem?_eq_getElem h]
  rfl
theorem RowL.rowF {w : World} {B n : Nat} {v : Value} {l : List Nat} (h : RowL w B v l) (hl : l.length = n) : ∃ A c, v = .slice A n c ∧ ∃ g, (0 < n → A = some ⟨g, 0, none⟩ ∧ B ≤ g ∧ n ≤ c ∧ RowF .i64 w g 3 n (fun i => ((l.getD i 0 : Nat) : Int))) := by
  rcases Nat.eq_zero_or_pos n with h0 | h0
  · obtain ⟨A, c, e⟩ := h.slice
    rw [hl] at e
    exact ⟨A, c, e, 0, fun hh => by omega⟩
  · have h9 := h
    unfold RowL at h9
    rw [nums_vals, hl] at h9
    obtain ⟨g', cp, hv, hB, hc, cs, h1, h2⟩ := own_row h9 h0
    exact ⟨_, cp, hv, g', fun _ => ⟨rfl, hB, hc, cs, h1, h2⟩⟩
set_option maxRecDepth 100000 in
set_option maxHeartbeats 4000000 in
theorem rcolors_ok {w : World} {A : Option Addr} {c n : Nat} {E : Es} (ha : EA w A c E) (hF : Fine n E) :
    Calls Try.prog 33 #[.int .i64 (n : Int), .slice A E.length c] w fun e w' => ∃ gc, e = .returned (.slice (some ⟨gc, 0, none⟩) n n) ∧ w.heap.size ≤ gc ∧ RowF .i64 w' gc 3 n (colF E (ord E n).reverse) ∧ Below w.heap.size w w' := by
  have hn := hF.1
  have hm := hF.2.1
  have mk1 := run_make31 n (by omega)
  have b0 := below_new1 w (.cells (zerosK .i64 n) 3)
  have r0 := RowF.new .i64 w 3 n
  go_enter Try.func33, Try.ntmps33
  go_upto_region 2 with fail
  clear mk1
  have hsz : (w.alloc (.cells (zerosK .i64 n) 3)).heap.size = w.heap.size + 1 := by simp
  generalize w.alloc (.cells (zerosK .i64 n) 3) = W1 at *
  obtain ⟨gc, hgc⟩ : ∃ x, w.heap.size = x := ⟨_, rfl⟩
  have hg0 : w.heap.size ≤ gc := by omega
  rw [hgc] at r0
  rw [hgc]
  clear hgc hsz
  go_wp2_with fail
  go_loopw [6] (fun v wr => ∃ i : Nat, v = .int .i64 i ∧ i ≤ n ∧ RowF .i64 wr gc 3 n (fun u => if u < i then -1 else 0) ∧ Below w.heap.size w wr) (fun v _ => 20000 - (intOf v).toNat)
  case atStart => exact ⟨0, rfl, Nat.zero_le _, r0.congr (fun i hi => by rw [if_neg (by omega)]), b0⟩
  case round =>
    clear r0 b0
    obtain ⟨i, rfl, hi, r, q⟩ := hrel
    by_cases hlt : i < n
    · have hin : (i : Int) < (n : Int) := by omega
      have c1 := r.cell hlt
      have c2 := r.frozen i
      have r2 := r.set_ i (-1)
      have q2 := q.setCell (p := ⟨gc, i, none⟩) hg0 (.int .i64 (-1))
      clear r q
      go_wp2_with fail
      go_roundw
      case rel => exact ⟨i + 1, by simp, by omega, r2.congr (fun u hu => by
        by_cases e : u = i
        · subst e; rw [if_pos rfl, if_pos (by omega)]
        · rw [if_neg e]
          by_cases h2 : u < i
          · rw [if_pos h2, if_pos (by omega)]
          · rw [if_neg h2, if_neg (by omega)]), q2⟩
      case measure => simp [intOf]; omega
    · have ein : n = i := by omega
      subst ein
      have hin : ¬ (n : Int) < (n : Int) := by omega
      have r : RowF .i64 wr gc 3 n (colF E ((ord E n).drop n).reverse) := r.congr (fun u hu => by
        rw [if_pos hu, List.drop_eq_nil_of_le (by rw [ord_len]; exact Nat.le_refl _)]; rfl)
      have xo := rorder_ok (ha.below q) hF
      have hgl := r.lt
      go_wp2_with fail
      refine xo.mono ?_
      rintro e w2 ⟨vo, rfl, ro, v1⟩
      have r := r.below' v1
      have q := below_end q q.size v1
      obtain ⟨Ao, co, rfl, go, hgo⟩ := ro.rowF (ord_len E n)
      have HGO := Lib.hid (show 0 < n → Ao = some ⟨go, 0, none⟩ ∧ gc < go ∧ n ≤ co from fun h => by
        obtain ⟨a, b, d, _⟩ := hgo h
        exact ⟨a, by omega, d⟩)
      have hO : 0 < n → RowF .i64 w2 go 3 n (fun i => (((ord E n).getD i 0 : Nat) : Int)) := fun h => (hgo h).2.2.2
      have HOL := Lib.hid (show ∀ j, j < n → (ord E n).getD j 0 < n from fun j hj => ord_lt (n := n) (E := E) (by
        rw [List.getD_eq_getElem?_getD, List.getElem?_eq_getElem (by rw [ord_len]; exact hj)]
        exact List.getElem_mem _))
      have HDR := Lib.hid (show ∀ j, j < n → ((ord E n).drop j).reverse = ((ord E n).drop (j + 1)).reverse ++ [(ord E n).getD j 0] from fun j hj => drop_rev (by rw [ord_len]; exact hj))
      have HFI := Lib.hid (show (ord E n).drop 0 = ord E n from rfl)
      obtain ⟨L, hL⟩ : ∃ L, ord E n = L := ⟨_, rfl⟩
      rw [hL] at r HOL HDR hO HFI
      have HLE := Lib.hid hL
      clear hgo ro xo v1 hi hlt hin hL hgl
      go_wp2_with fail
      go_loopg [8, 9] n (fun k p _ wr => p = .int .i64 ((k : Int) - 1) ∧ k ≤ n ∧ RowF .i64 wr gc 3 n (colF E (L.drop k).reverse) ∧ (0 < n → RowF .i64 wr go 3 n (fun i => ((L.getD i 0 : Nat) : Int))) ∧ Below w.heap.size w wr)
      case atStart => exact ⟨rfl, Nat.le_refl _, r, hO, q⟩
      case round =>
        clear r hO q
        obtain ⟨rfl, hk, r, hO, q⟩ := hrel
        rcases gk with _ | j
        · have r : RowF .i64 wr gc 3 n (colF E L.reverse) := by rw [← HFI.out]; exact r
          have e0 : ((0 : Nat) : Int) - 1 = -1 := rfl
          rw [e0]
          clear e0 hO
          go_wp2_with fail
          go_ret
          exact ⟨gc, rfl, hg0, by rw [HLE.out]; exact r, q⟩
        · have hjn : j < n := by omega
          have ho := hO (by omega)
          obtain ⟨rfl, hgg, hnc⟩ := HGO.out (by omega)
          have hvn := HOL.out j hjn
          have c0 := ho.cell hjn
          have HD := Lib.hid (HDR.out j hjn)
          obtain ⟨v, hv⟩ : ∃ v, L.getD j 0 = v := ⟨_, rfl⟩
          rw [hv] at c0 hvn HD
          obtain ⟨col, hcol⟩ : ∃ x, colF E (L.drop (j + 1)).reverse = x := ⟨_, rfl⟩
          rw [hcol] at r
          have HC := Lib.hid (show colF E (L.drop j).reverse = colStep E col v from by rw [HD.out, colF_snoc, hcol])
          have XU := Lib.hid (fun (x : Int) => rused_ok (ha.below q) hF r hvn x)
          have HM := Lib.hid (mex_spec ((oth E v E.length).map col))
          have hSl : ((oth E v E.length).map col).length ≤ 20000 := by
            rw [List.length_map]
            unfold oth
            rw [List.length_map]
            have := cnt_le E v E.length
            unfold cnt at this
            omega
          have HCS := Lib.hid (show ∀ u, colStep E col v u = if u = v then ((mex ((oth E v E.length).map col) : Nat) : Int) else col u from fun u => rfl)
          obtain ⟨S, hS⟩ : ∃ S, (oth E v E.length).map col = S := ⟨_, rfl⟩
          rw [hS] at HM hSl XU HCS
          obtain ⟨x, hx⟩ : ∃ x, mex S = x := ⟨_, rfl⟩
          rw [hx] at HM HCS
          have hx2 : x ≤ 20000 := by have := HM.out.1; omega
          have e1 : ((j + 1 : Nat) : Int) - 1 = (j : Int) := by omega
          rw [e1]
          have hj0 : (0 : Int) ≤ (j : Int) := by omega
          have hj1 : (j : Int) < (n : Int) := by omega
          have hvn2 : (v : Int) < (n : Int) := by omega
          have c1 := r.cell hvn
          have c2 := r.frozen v
          have r2 := r.set_ v (x : Int)
          have ho2 := ho.far (p := ⟨gc, v, none⟩) (by show go ≠ gc; omega) (.int .i64 (x : Int))
          have q2 := q.setCell (p := ⟨gc, v, none⟩) hg0 (.int .i64 (x : Int))
          clear hv hcol HD hS hx e1 r ho hO q
          go_wp2_with fail
          go_loopw [9] (fun v9 wi => ∃ y : Nat, v9 = .int .i64 y ∧ y ≤ x ∧ wr = wi) (fun v _ => 30000 - (intOf v).toNat)
          case atStart => exact ⟨0, rfl, Nat.zero_le _, rfl⟩
          case round =>
            obtain ⟨y, rfl, hy, rfl⟩ := hrel
            have xu := XU.out (y : Int)
            by_cases hlt : y < x
            · rw [decide_eq_true (HM.out.2.2 y hlt)] at xu
              go_wp2_with fail
              refine xu.mono ?_
              rintro e w' ⟨rfl, rfl⟩
              go_wp2_with fail
              go_roundw
              case rel => exact ⟨y + 1, by simp, by omega, by trivial⟩
              case measure => simp [intOf]; omega
            · have eyx : x = y := by omega
              subst eyx
              rw [decide_eq_false HM.out.2.1] at xu
              go_wp2_with fail
              refine xu.mono ?_
              rintro e w' ⟨rfl, rfl⟩
              go_wp2_with fail
              go_roundg j
              case measure => omega
              case rel => exact ⟨rfl, by omega, r2.congr (fun u hu => by rw [HC.out, HCS.out]), fun _ => ho2, q2⟩
end Go.Proofs.Ytoiafopndlnknaa
