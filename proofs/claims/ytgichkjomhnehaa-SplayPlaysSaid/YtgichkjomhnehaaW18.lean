/-
  Copy, New.
-/
import Derived.Test.YtgichkjomhnehaaW17
set_option linter.unusedVariables false
set_option linter.unusedSimpArgs false
namespace Go.Proofs.Ytgichkjomhnehaa
open Go.RowKit Go.Shelf

theorem info74 : (Try.prog.info? 74).map (fun i => (i.zero, i.size, i.bytes)) = some (some (.agg #[.int .i64 0, .int .i64 0, .int .i64 0, .bool false, .int .i64 0, .int .i64 0, .int .i64 0, .int .u64 0, .int .u64 0]), 9, 72) := by kernel_rfl
/-- all cells of the nodes -/
def cellsL (st : Nat → Nd) (n : Nat) : List Value := (List.range ((n + 1) * 9)).map fun j => fld (st (j / 9)) (j % 9)
theorem cellsL_len (st : Nat → Nd) (n : Nat) : (cellsL st n).length = (n + 1) * 9 := by simp [cellsL]
theorem cellsL_get {st : Nat → Nd} {n j : Nat} (h : j < (n + 1) * 9) : (cellsL st n)[j]? = some (fld (st (j / 9)) (j % 9)) := by
  unfold cellsL
  rw [List.getElem?_map, List.getElem?_range h]
  rfl
theorem fld_one (d : Nd) (f : Nat) : (fld d f).oneCell' = true := by
  rcases f with _ | _ | _ | _ | _ | _ | _ | _ | f <;> rfl
theorem nodes_of {w : World} {g n : Nat} {st : Nat → Nd} {cur : Array Value} (h : w.heap[g]? = some (.cells cur 74 (0, 0))) (ht : cur.toList.take ((n + 1) * 9) = cellsL st n) : Nodes w g n st := by
  refine ⟨cur, h, fun i hi f hf => ?_⟩
  have hj : i * 9 + f < (n + 1) * 9 := by omega
  have := cellsL_get (st := st) hj
  rw [← ht, List.getElem?_take, if_pos hj] at this
  rw [← Array.getElem?_toList, this, show (i * 9 + f) / 9 = i by omega, show (i * 9 + f) % 9 = f by omega]
theorem cloneN_ok (s n c : Nat) (st : Nat → Nd) (w : World) (h : Nodes w s n st) (hn : n ≤ 65536) :
    Calls Try.prog 46 #[.slice (some ⟨s, 0, none⟩) (n + 1) c] w fun e w' => ∃ g cap, e = .returned (.slice (some ⟨g, 0, none⟩) (n + 1) cap) ∧ n + 1 ≤ cap ∧ cap ≤ 9223372036854775807 ∧ w.heap.size ≤ g ∧ Nodes w' g n st ∧ Below w.heap.size w w' := by
  obtain ⟨i0, hi, hz0, hz1, hz2⟩ := info_parts info74
  refine (Try.slices_Clone i0 _ 9 72 hi hz0 hz1 hz2 rfl (by decide) Try.sizeOf74 s 0 (n + 1) c (cellsL st n) w (cellsL_len st n) (by simp only [maxLen]; omega) (by omega) (fun j u hu => ?_) (fun u hu => ?_)).mono ?_
  · have hj : j < (n + 1) * 9 := by
      have := (List.getElem?_eq_some_iff.1 hu).1
      rwa [cellsL_len] at this
    rw [cellsL_get hj] at hu
    cases hu
    have := h.cell (i := j / 9) (by omega) (j % 9) (by omega)
    rw [Nat.zero_add]
    rw [show j / 9 * 9 + j % 9 = j by omega] at this
    exact this
  · unfold cellsL at hu
    obtain ⟨j, _, rfl⟩ := List.mem_map.1 hu
    exact fld_one _ _
  · rintro e w' ⟨v, rfl, ho, hne, hb⟩
    rcases ho.2 with ⟨h0, _⟩ | ⟨g, cap, cur, hv, hg, hh, hc, hm, hs, ht⟩
    · exact (hne h0).elim
    · exact ⟨g, cap, by rw [hv], hc, by simpa [maxLen] using hm, hg, nodes_of hh ht, hb⟩
theorem copy_no (p : Option Addr) (w : World) (h : NoSeqs w p) :
    Calls Try.prog 27 #[.pointer p] w fun e w' => e = .returned (.pointer none) ∧ w = w' := by
  have x0 := valid_no p w h
  go_enter Try.func27, Try.ntmps27
  go_wp2_with fail
  refine x0.mono ?_
  rintro e w' ⟨rfl, rfl⟩
  go_wp2_with fail
  go_ret
  exact ⟨rfl, rfl⟩
set_option maxRecDepth 100000 in
theorem copy_ok (b s n : Nat) (Q : Nat → List Nat) (U : Nat → Int) (w : World) (h : SQ w b s n Q U) :
    Calls Try.prog 27 #[.pointer (some ⟨b, 0, none⟩)] w fun e w' => ∃ b' s', e = .returned (.pointer (some ⟨b', 0, none⟩)) ∧ SQ w' b' s' n Q U ∧ w.heap.size ≤ b' ∧ w.heap.size ≤ s' ∧ Below w.heap.size w w' := by
  have x0 := validQ_ok b s n Q U w h
  obtain ⟨hn, st, V, S, F, h1, h2⟩ := h
  obtain ⟨c, c1, c2, c3⟩ := h1.cell1
  have x1 := cloneN_ok s n c st w h1.2 hn
  have H2 := Lib.hid h2
  clear h1 h2
  go_enter Try.func27, Try.ntmps27
  go_wp2_with fail
  refine x0.mono ?_
  rintro e w' ⟨rfl, rfl⟩
  go_wp2_with fail
  refine x1.mono ?_
  rintro e w1 ⟨g, cap, rfl, g1, g2, g3, hN, hb⟩
  have hq := hb.size
  have kk := Blk.new w1 66 #[.pointer (some ⟨w1.heap.size, 0, none⟩), .slice (some ⟨g, 0, none⟩) (n + 1) cap]
  have hN2 := hN.below (below_new1 w1 (.cells #[.pointer (some ⟨w1.heap.size, 0, none⟩), .slice (some ⟨g, 0, none⟩) (n + 1) cap] 66))
  have hb2 := hb.alloc hq (.cells #[.pointer (some ⟨w1.heap.size, 0, none⟩), .slice (some ⟨g, 0, none⟩) (n + 1) cap] 66)
  have HK := Lib.hid (And.intro kk (And.intro hN2 hb2))
  clear x0 x1 c1 hN hb kk hN2 hb2
  go_wp2_with fail
  go_ret
  obtain ⟨kk, hN2, hb2⟩ := HK.out
  exact ⟨w1.heap.size, g, rfl, ⟨hn, st, V, S, F, ⟨⟨cap, kk, g1, g2⟩, hN2⟩, H2.out⟩, hq, g3, hb2⟩
/-! New -/
def leaf (j : Nat) : Nd := ⟨0, 0, 0, false, 0, 1, j, 0, 0⟩
theorem leaf_agg (j : Nat) : Agg (fun _ => 0) (leaf j) [j] where
  size := rfl
  first := ⟨List.mem_singleton.2 rfl, fun y hy => Or.inl (List.mem_singleton.1 hy)⟩
  sum := by simp [leaf, tot]
  h0 := by simp [leaf]
  h1 := by simp [leaf]
def stN (k : Nat) : Nat → Nd := fun j => if 1 ≤ j ∧ j ≤ k then leaf j else Z0
theorem stN_step (k : Nat) : refreshF (stN k) (k + 1) = stN (k + 1) := by
  funext j
  unfold refreshF
  by_cases e : j = k + 1
  · subst e
    rw [put_at]
    have h0 : stN k (k + 1) = Z0 := if_neg (by omega)
    have h1 : stN (k + 1) (k + 1) = leaf (k + 1) := if_pos (by omega)
    rw [h1]
    unfold refreshN
    rw [h0]
    have e0 : ∀ a : Nd, addK (stN k) a Z0.k0 = a := fun a => by unfold addK; rw [if_pos (show Z0.k0 = 0 from rfl)]
    have e1 : ∀ a : Nd, addK (stN k) a Z0.k1 = a := fun a => by unfold addK; rw [if_pos (show Z0.k1 = 0 from rfl)]
    rw [e0, e1]
    unfold ref0
    rw [h0]
    rfl
  · rw [put_ne _ _ e]
    unfold stN
    by_cases h : 1 ≤ j ∧ j ≤ k
    · rw [if_pos h, if_pos (by omega)]
    · rw [if_neg h, if_neg (by omega)]
def leaves (n : Nat) : List T := (List.range n).map fun x => .node .nil (x + 1) false .nil
theorem leaves_ids (n : Nat) : allIds (leaves n) = (List.range n).map (· + 1) := by
  unfold allIds leaves
  rw [List.flatMap_map]
  induction List.range n with
  | nil => rfl
  | cons a l ih => rw [List.flatMap_cons, ih]; rfl
theorem new_sq (n : Nat) : Sq (fun _ => 0) (stN n) n (fun i => [i]) (leaves n) := by
  refine ⟨⟨fun t ht => ?_, ?_, fun x => ?_, fun j hj => ?_⟩, fun t ht x hx => ?_⟩
  · obtain ⟨x, hx, rfl⟩ := List.mem_map.1 ht
    have hxn := List.mem_range.1 hx
    have e : stN n (x + 1) = leaf (x + 1) := if_pos (by omega)
    refine ⟨?_, trivial, trivial⟩
    rw [e]
    exact ⟨by omega, rfl, rfl, rfl, rfl, rfl, leaf_agg (x + 1)⟩
  · rw [leaves_ids]
    exact (List.pairwise_map.2 (List.nodup_range.imp (fun h e => h (by omega))))
  · rw [leaves_ids]
    simp only [List.mem_map, List.mem_range]
    constructor
    · rintro ⟨a, ha, rfl⟩; omega
    · intro h; exact ⟨x - 1, by omega, by omega⟩
  · exact if_neg (by omega)
  · obtain ⟨y, hy, rfl⟩ := List.mem_map.1 ht
    simp [T.ids] at hx
    subst hx
    rfl
theorem new_bad (N : Int) (w : World) (h : N < 0 ∨ 65536 < N) : Calls Try.prog 21 #[.int .i64 N] w fun e w' => e = .returned (.tuple #[.pointer none, .int .i64 2]) ∧ w = w' := by
  by_cases h0 : N < 0
  · go_enter Try.func21, Try.ntmps21
    go_wp2_with fail
    go_ret2
    exact ⟨rfl, rfl⟩
  · have h1 : 65536 < N := by omega
    clear h
    go_enter Try.func21, Try.ntmps21
    go_wp2_with fail
    go_ret2
    exact ⟨rfl, rfl⟩
theorem run_make64 (n : Nat) (hn : n ≤ 65536) (w : World) :
    (Instr.makeSlice 64 (.int .i64 ((n : Int) + 1)) (.int .i64 ((n : Int) + 1))).run Try.prog w = .ok (.slice (some ⟨w.heap.size, 0, none⟩) (n + 1) (n + 1)) (w.alloc (.cells (madeCells #[.int .i64 0, .int .i64 0, .int .i64 0, .bool false, .int .i64 0, .int .i64 0, .int .i64 0, .int .u64 0, .int .u64 0] ((n + 1) * 9)) 74)) := by
  obtain ⟨i0, hi, hz0, hz1, hz2⟩ := info_parts info74
  have hr := Go.run_make (P := Try.prog) w 64 74 i0 _ Try.underlying64 hi hz0 .i64 .i64 (n + 1 : Nat) (n + 1 : Nat) (by omega) (by omega) (by rw [hz2]; omega) (by omega)
  simp only [Int.toNat_natCast] at hr
  rw [show ((n + 1 : Nat) : Int) = (n : Int) + 1 by omega] at hr
  rw [hr, hz1]
  rfl
theorem made_nodes (w : World) (n : Nat) : Nodes (w.alloc (.cells (madeCells #[.int .i64 0, .int .i64 0, .int .i64 0, .bool false, .int .i64 0, .int .i64 0, .int .i64 0, .int .u64 0, .int .u64 0] ((n + 1) * 9)) 74)) w.heap.size n (stN 0) := by
  refine ⟨_, Blk.new w 74 _, fun i hi f hf => ?_⟩
  have e : stN 0 i = Z0 := if_neg (by omega)
  have hj : i * 9 + f < (n + 1) * 9 := by omega
  have hm : (i * 9 + f) % 9 = f := by omega
  rw [e]
  unfold madeCells
  rw [Array.getElem?_map, Array.getElem?_range, if_pos hj]
  simp only [Option.map_some]
  rw [show (#[Value.int .i64 0, .int .i64 0, .int .i64 0, .bool false, .int .i64 0, .int .i64 0, .int .i64 0, .int .u64 0, .int .u64 0] : Array Value).size = 9 from rfl, hm]
  rcases f with _ | _ | _ | _ | _ | _ | _ | _ | _ | f <;> first | rfl | omega
set_option maxRecDepth 100000 in
set_option maxHeartbeats 1000000 in
theorem new_ok (n : Nat) (w : World) (hn : n ≤ 65536) :
    Calls Try.prog 21 #[.int .i64 (n : Int)] w fun e w' => ∃ b s, e = .returned (.tuple #[.pointer (some ⟨b, 0, none⟩), .int .i64 0]) ∧ SQ w' b s n (fun x => [x]) (fun _ => 0) ∧ w.heap.size ≤ b ∧ w.heap.size ≤ s ∧ Below w.heap.size w w' := by
  have hmk := run_make64 n hn w
  have hN := made_nodes w n
  have hb0 := below_new1 w (.cells (madeCells #[.int .i64 0, .int .i64 0, .int .i64 0, .bool false, .int .i64 0, .int .i64 0, .int .i64 0, .int .u64 0, .int .u64 0] ((n + 1) * 9)) 74)
  have hsz : (w.alloc (.cells (madeCells #[.int .i64 0, .int .i64 0, .int .i64 0, .bool false, .int .i64 0, .int .i64 0, .int .i64 0, .int .u64 0, .int .u64 0] ((n + 1) * 9)) 74)).heap.size = w.heap.size + 1 := by simp
  have HSZ := Lib.hid hsz
  clear hsz
  have hn0 : ¬ (n : Int) < 0 := by omega
  have hn1 : ¬ (65536 : Int) < (n : Int) := by omega
  generalize hA : w.alloc (.cells (madeCells #[.int .i64 0, .int .i64 0, .int .i64 0, .bool false, .int .i64 0, .int .i64 0, .int .i64 0, .int .u64 0, .int .u64 0] ((n + 1) * 9)) 74) = W0 at *
  have kk := Blk.new W0 66 #[.pointer (some ⟨W0.heap.size, 0, none⟩), .slice (some ⟨w.heap.size, 0, none⟩) (n + 1) (n + 1)]
  have hN2 := hN.below (below_new1 W0 (.cells #[.pointer (some ⟨W0.heap.size, 0, none⟩), .slice (some ⟨w.heap.size, 0, none⟩) (n + 1) (n + 1)] 66))
  have hb2 := hb0.alloc hb0.size (.cells #[.pointer (some ⟨W0.heap.size, 0, none⟩), .slice (some ⟨w.heap.size, 0, none⟩) (n + 1) (n + 1)] 66)
  have S0 : SP (W0.alloc (.cells #[.pointer (some ⟨W0.heap.size, 0, none⟩), .slice (some ⟨w.heap.size, 0, none⟩) (n + 1) (n + 1)] 66)) W0.heap.size w.heap.size n (stN 0) := ⟨⟨n + 1, kk, Nat.le_refl _, by omega⟩, hN2⟩
  have HS := Lib.hid S0
  clear hN kk hN2 hb0 S0 hA
  go_enter Try.func21, Try.ntmps21
  go_upto_region 5 with fail
  obtain ⟨b, hb⟩ : ∃ b, W0.heap.size = b := ⟨_, rfl⟩
  have hbw : w.heap.size + 1 = b := by rw [← hb]; exact HSZ.out.symm
  rw [hb] at HS hb2 ⊢
  generalize W0.alloc (.cells #[.pointer (some ⟨b, 0, none⟩), .slice (some ⟨w.heap.size, 0, none⟩) (n + 1) (n + 1)] 66) = W1 at *
  have S0 := HS.out
  clear hmk HS HSZ hb
  go_wp2_with fail
  go_loopw [5, 22] (fun _ vk wr => ∃ k : Nat, vk = .int .i64 k ∧ k ≤ n ∧ SP wr b w.heap.size n (stN k) ∧ Below w.heap.size w wr) (fun _ vk _ => n - (intOf vk).toNat)
  case atStart => exact ⟨0, rfl, Nat.zero_le _, S0, hb2⟩
  case round =>
    clear S0 hb2
    obtain ⟨k, rfl, hk, kS, hB⟩ := hrel
    by_cases hlt : k < n
    · have hki : (k : Int) < (n : Int) := by omega
      have e0 : stN k (k + 1) = Z0 := if_neg (by omega)
      have z0 : stN k 0 = Z0 := if_neg (by omega)
      have kid : KidOk n (stN k) (k + 1) 0 := ⟨Nat.zero_le _, fun h => (h rfl).elim, by rw [z0]; decide, by rw [z0]; exact Nat.zero_le _, by rw [z0]; decide, by rw [z0]; decide⟩
      have xr := refresh_ok b w.heap.size n (stN k) (k + 1) wr kS hn (by omega) (by rw [e0]; decide) (by rw [e0]; exact kid) (by rw [e0]; exact kid)
      rw [stN_step, show ((k + 1 : Nat) : Int) = (k : Int) + 1 by omega] at xr
      clear e0 z0 kid kS
      go_wp2_with fail
      refine xr.mono ?_
      rintro e W2 ⟨rfl, kS2, kT⟩
      have hB2 := below_turns hB hB.size kT (fun i hi e => by omega)
      clear xr kT
      go_wp2_with fail
      go_roundw
      case rel => exact ⟨k + 1, by simp, by omega, kS2, hB2⟩
      case measure => simp [intOf]; omega
    · obtain rfl : k = n := by omega
      have HS := Lib.hid (And.intro kS hB)
      clear kS hB
      go_wp2_with fail
      go_ret2
      exact ⟨b, w.heap.size, rfl, ⟨hn, stN k, fun _ => 0, fun i => [i], leaves k, HS.out.1, new_sq k, fun _ => ⟨by show -9223372036854775808 ≤ (0 : Int); decide, by show (0 : Int) ≤ 9223372036854775807; decide⟩, fun x _ => rfl, fun x _ => rfl⟩, by omega, Nat.le_refl _, HS.out.2⟩
end Go.Proofs.Ytgichkjomhnehaa
