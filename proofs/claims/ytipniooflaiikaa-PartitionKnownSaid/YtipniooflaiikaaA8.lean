/-
  The next partition.
-/
import Derived.Test.YtipniooflaiikaaA5
import Derived.Laws.CopyOwn
set_option linter.unusedVariables false
set_option linter.unusedSimpArgs false
namespace Go.Proofs.Ytipniooflaiikaa
open Go.RowKit Go.Shelf

/-- the element that gets a greater label, and that label -/
structure NextIs (a : Nat → Nat) (n t v : Nat) : Prop where
  lt : t < n
  ne : a t ≠ t
  last : ∀ i, t < i → i < n → a i = i
  gt : a t < v
  le : v ≤ t
  top : v = t ∨ a v = v
  low : ∀ i, a t < i → i < v → a i ≠ i
/-- the next labels -/
def nx (a : Nat → Nat) (t v : Nat) : Nat → Nat := fun j => if j < t then a j else if j = t then v else 0
theorem nx_upd (a : Nat → Nat) (t v u : Nat) : upd (nx a t v) t u = nx a t u := by
  funext j
  unfold upd
  by_cases h : j = t
  · subst h
    rw [if_pos rfl]
    unfold nx
    rw [if_neg (Nat.lt_irrefl j), if_pos rfl]
  · rw [if_neg h]
    unfold nx
    rw [if_neg h, if_neg h]
theorem nx_start (a : Nat → Nat) (t v : Nat) : upd (fun j => if j < t then a j else 0) t v = nx a t v := by
  funext j
  unfold upd
  by_cases h : j = t
  · subst h
    rw [if_pos rfl]
    unfold nx
    rw [if_neg (Nat.lt_irrefl j), if_pos rfl]
  · rw [if_neg h]
    unfold nx
    rw [if_neg h]
/-- what Next returns -/
def NextOk (w : World) (n : Nat) (z : Nat → Int) (e : Ending) (w' : World) : Prop :=
  ((¬ CanZ z n ∨ ∀ i, i < n → z i = (i : Int)) ∧ e = .returned (.tuple #[.slice none 0 0, .bool false]) ∧ Below w.heap.size w w') ∨
  (∃ (a : Nat → Nat) (t v s : Nat), Can a n ∧ (∀ i, i < n → z i = (a i : Int)) ∧ NextIs a n t v ∧ e = .returned (.tuple #[.slice (some ⟨s, 0, none⟩) n n, .bool true]) ∧ RowN w' s n (nx a t v) ∧ w.heap.size ≤ s ∧ Below w.heap.size w w')
/-- the first of a row, copied over the first of another one -/
theorem row_splice {w : World} {g n t : Nat} {f : Nat → Nat} {a : Nat → Nat} {cur : Array Value} (hc : ∀ i, i < n → cur[i]? = some (.int .i64 (f i : Int))) (ht : t ≤ n) (h : w.heap[g]? = some (.cells (splice cur.toList 0 (vals (fun i => (a i : Int)) t)).toArray 3 (0, 0))) :
    RowN w g n (fun j => if j < t then a j else f j) := by
  refine ⟨_, h, fun i hi => ?_⟩
  rw [← Array.getElem?_toList]
  show ((splice cur.toList 0 (vals (fun i => (a i : Int)) t)))[i]? = _
  unfold splice
  rw [List.take_zero, List.nil_append, Nat.zero_add, vals_len]
  by_cases h1 : i < t
  · rw [List.getElem?_append_left (by rw [vals_len]; exact h1), vals_get h1]
    show _ = some (Value.int .i64 (((if i < t then a i else f i : Nat)) : Int))
    rw [if_pos h1]
  · rw [List.getElem?_append_right (by rw [vals_len]; omega), vals_len, List.getElem?_drop, show t + (i - t) = i by omega, Array.getElem?_toList, hc i hi]
    show _ = some (Value.int .i64 (((if i < t then a i else f i : Nat)) : Int))
    rw [if_neg h1]
theorem info3s : (Try.prog.info? 3).map (·.size) = some 1 := by kernel_rfl

set_option maxRecDepth 100000 in
set_option maxHeartbeats 4000000 in
theorem next_ok (n c : Nat) (A : Option Addr) (z : Nat → Int) (w : World) (ha : ArgI .i64 w A n c z) (hn : n ≤ 100000) :
    Calls Try.prog 18 #[.slice A n c] w fun e w' => NextOk w n z e w' := by
  have x0 := check_ok n c A z w ha
  have hn63 := ha.2.1
  have hnc := ha.1
  go_enter Try.func18, Try.ntmps18
  go_wp2_with fail
  refine x0.mono ?_
  rintro e w' ⟨⟨rfl, h1⟩ | ⟨rfl, h1⟩, rfl⟩
  case inr =>
    have H1 := Lib.hid h1
    clear h1
    go_wp2_with fail
    go_ret2
    exact Or.inl ⟨Or.inl H1.out, rfl, Below.refl _ _⟩
  obtain ⟨a, hca, ea⟩ := h1.nat
  have HCA := Lib.hid hca
  have HE := Lib.hid ea
  clear x0 h1 hca ea
  have hmk : ∀ W : World, (Instr.makeSlice 22 (.int .i64 (n : Int)) (.int .i64 (n : Int))).run Try.prog W = .ok (.slice (some ⟨W.heap.size, 0, none⟩) n n) (W.alloc (.cells (zerosK .i64 n) 3)) := fun W => run_make22 n hn W
  go_wp2_with fail
  go_loop [4] (fun vi => ∃ t : Nat, vi = .int .i64 ((t : Int) - 1) ∧ t ≤ n ∧ Hid (∀ i, t ≤ i → i < n → a i = i)) (fun vi => (intOf vi + 1).toNat)
  case atStart => exact ⟨n, rfl, Nat.le_refl _, Lib.hid (fun i h1 h2 => by omega)⟩
  case round =>
    obtain ⟨t, rfl, ht, HT⟩ := hrel
    rcases Nat.eq_zero_or_pos t with h0 | h0
    · subst h0
      have HA := Lib.hid (show ∀ i, i < n → z i = (i : Int) from fun i hi => by rw [HE.out i hi, HT.out i (Nat.zero_le _) hi])
      go_wp2_with fail
      go_ret2
      exact Or.inl ⟨Or.inr HA.out, rfl, Below.refl _ _⟩
    obtain ⟨q, rfl⟩ : ∃ q, t = q + 1 := ⟨t - 1, by omega⟩
    obtain ⟨g, o, rfl, hg, hc⟩ := ha.2.2.1 (by omega)
    have hqn : (q : Int) < (n : Int) := by omega
    have hqe : ((q + 1 : Nat) : Int) - 1 = (q : Int) := by omega
    rw [hqe]
    clear hqe
    have cq := hc q (by omega)
    rw [HE.out q (by omega)] at cq
    have hqa := (HCA.out q (by omega)).1
    obtain ⟨l, hl⟩ : ∃ l, a q = l := ⟨_, rfl⟩
    rw [hl] at cq hqa
    have HLQ := Lib.hid hl
    have HC := Lib.hid hc
    clear hl hc
    by_cases hlq : l = q
    · have HT2 := Lib.hid (show ∀ i, q ≤ i → i < n → a i = i from fun i h1 h2 => by
        rcases Nat.lt_or_ge q i with k | k
        · exact HT.out i (by omega) h2
        · obtain rfl : i = q := by omega
          rw [HLQ.out]; exact hlq)
      subst hlq
      go_wp2_with fail
      go_round
      case rel => exact ⟨l, rfl, by omega, HT2⟩
      case measure => simp [intOf]
    · have e1 : ((l : Int) == (q : Int)) = false := by simp; omega
      have e2 : ¬ (l : Int) = (q : Int) := by omega
      have hq0 : ¬ (q : Int) < 0 := by omega
      have hq00 : (0 : Int) ≤ (q : Int) := by omega
      have hlq2 : l < q := by omega
      have r0 : RowN (w.alloc (.cells (zerosK .i64 n) 3)) w.heap.size n (fun _ => 0) := (RowF.new .i64 w 3 n).congr (fun i hi => rfl)
      have b0 := Blk.new w 3 (zerosK .i64 n)
      have q0 := below_new1 w (.cells (zerosK .i64 n) 3)
      have hz0 : (w.alloc (.cells (zerosK .i64 n) 3)).heap.size = w.heap.size + 1 := by simp
      have haw := ha.below q0
      clear hlq
      go_upto_region 9 with fail
      generalize w.alloc (.cells (zerosK .i64 n) 3) = W0 at *
      have hcells : ∀ i, i < n → (zerosK .i64 n)[i]? = some (.int .i64 ((0 : Nat) : Int)) := fun i hi => by unfold zerosK; rw [← Array.getElem?_toList, toList_madeCells_one, List.getElem?_replicate, if_pos hi]; rfl
      have hsz : (zerosK .i64 n).size = n := by unfold zerosK; rw [← Array.length_toList, toList_madeCells_one, List.length_replicate]
      have hsrc : ∀ j v, (vals (fun i => (a i : Int)) q)[j]? = some v → W0.cell? ((⟨g, o, none⟩ : Addr).add j) = some v := fun j v hv => by
        obtain ⟨hj, rfl⟩ := vals_some hv
        rw [Addr.add_lit]
        have h1 := (q0.cell (p := ⟨g, o + j, none⟩) hg).trans (HC.out j (by omega))
        rw [HE.out j (by omega)] at h1
        exact h1
      have HS := Lib.hid hsrc
      have HCE := Lib.hid hcells
      have HSZ := Lib.hid hsz
      clear hmk hcells hsz hsrc hz0 r0
      have hgN : W0.heap[w.heap.size]? = some (.cells ((zerosK .i64 n).toList).toArray 3 (0, 0)) := by rw [Array.toArray_toList]; exact b0
      have HGN := Lib.hid hgN
      have hg1 : ¬ g = w.heap.size := by omega
      have hg2 : ¬ w.heap.size = g := by omega
      clear hgN
      go_wp2_with (with_reducible refine wpList_copy_splice rfl _ _ 22 22 rfl 3 Try.underlying22 info3s (some ⟨w.heap.size, 0, none⟩) (some ⟨g, o, none⟩) n n q c rfl rfl w.heap.size 0 (zerosK .i64 n).toList 3 HGN.out (vals (fun i => (a i : Int)) q) (by rw [vals_len]; exact (Nat.min_eq_left (by omega)).symm) (fun _ => ⟨rfl, _, rfl, HS.out⟩) (by rw [vals_len, Array.length_toList, HSZ.out]; omega) (vals_one _ _) w.heap.size w q0 (Nat.le_refl _) ?_; intro w2 hH hB2; have r2 := row_splice (f := fun _ => 0) HCE.out (show q ≤ n by omega) hH.out; have hrc := r2.cell (i := q) (by omega); have hrz := r2.frozen q; have cq2 := (hB2.cell (p := ⟨g, o + q, none⟩) hg).trans cq)
      have r3 : RowN (w2.setCell ⟨w.heap.size, q, none⟩ (.int .i64 (q : Int))) w.heap.size n (nx a q q) := by have h := r2.set_n q q; rw [nx_start] at h; exact h
      have q3 := hB2.setCell (p := ⟨w.heap.size, q, none⟩) (Nat.le_refl _) (.int .i64 (q : Int))
      clear hrc hrz cq2 r2
      generalize w2.setCell ⟨w.heap.size, q, none⟩ (.int .i64 (q : Int)) = W3 at *
      go_loopw [6] (fun vi wr => ∃ i : Nat, vi = .int .i64 i ∧ l < i ∧ i ≤ q ∧ Hid (∀ j, l < j → j < i → a j ≠ j) ∧ RowN wr w.heap.size n (nx a q q) ∧ Below w.heap.size w wr) (fun vi _ => q - (intOf vi).toNat)
      case atStart => exact ⟨l + 1, by simp, by omega, by omega, Lib.hid (fun j h1 h2 => by omega), r3, q3⟩
      case round =>
        clear r3 q3
        obtain ⟨i, rfl, hli, hiq, HJ, hr, q4⟩ := hrel
        by_cases hlt : i < q
        · have hlt2 : (i : Int) < (q : Int) := by omega
          have hin : (i : Int) < (n : Int) := by omega
          have ci := (q4.cell (p := ⟨g, o + i, none⟩) hg).trans (HC.out i (by omega))
          rw [HE.out i (by omega)] at ci
          obtain ⟨x, hx⟩ : ∃ x, a i = x := ⟨_, rfl⟩
          rw [hx] at ci
          have HX := Lib.hid hx
          clear hx
          by_cases hxi : x = i
          · have HN := Lib.hid (show NextIs a n q i from ⟨by omega, by rw [HLQ.out]; omega, fun j h1 h2 => HT.out j (by omega) h2, by rw [HLQ.out]; omega, by omega, Or.inr (by rw [HX.out]; exact hxi), fun j h1 h2 => HJ.out j (by rw [HLQ.out] at h1; omega) h2⟩)
            subst hxi
            have hrc := hr.cell (i := q) (by omega)
            have hrz := hr.frozen q
            go_wp2_with fail
            go_ret2
            have R : RowN (wr.setCell ⟨w.heap.size, q, none⟩ (.int .i64 (x : Int))) w.heap.size n (nx a q x) := by have h := hr.set_n q x; rw [nx_upd] at h; exact h
            exact Or.inr ⟨a, q, x, w.heap.size, HCA.out, HE.out, HN.out, rfl, R, Nat.le_refl _, q4.setCell (p := ⟨w.heap.size, q, none⟩) (Nat.le_refl _) _⟩
          · have e3 : ((x : Int) == (i : Int)) = false := by simp; omega
            have e4 : ¬ (x : Int) = (i : Int) := by omega
            have HJ2 := Lib.hid (show ∀ j, l < j → j < i + 1 → a j ≠ j from fun j h1 h2 => by
              rcases Nat.lt_or_ge j i with k | k
              · exact HJ.out j h1 k
              · obtain rfl : j = i := by omega
                rw [HX.out]; exact hxi)
            clear hxi
            go_wp2_with fail
            go_roundw
            case rel => exact ⟨i + 1, by simp, by omega, by omega, HJ2, hr, q4⟩
            case measure => simp [intOf]; omega
        · have hie : i = q := by omega
          have hlt2 : ¬ (i : Int) < (q : Int) := by omega
          have HN := Lib.hid (show NextIs a n q q from ⟨by omega, by rw [HLQ.out]; omega, fun j h1 h2 => HT.out j (by omega) h2, by rw [HLQ.out]; omega, Nat.le_refl _, Or.inl rfl, fun j h1 h2 => HJ.out j (by rw [HLQ.out] at h1; omega) (by omega)⟩)
          clear hie
          go_wp2_with fail
          go_ret2
          exact Or.inr ⟨a, q, q, w.heap.size, HCA.out, HE.out, HN.out, rfl, hr, Nat.le_refl _, q4⟩
end Go.Proofs.Ytipniooflaiikaa
