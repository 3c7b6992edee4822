/-
  SplayCuts, walked.
-/
import Derived.Test.YtgichkjomhnehaaW20
import Derived.Deep.RegionHeld3
set_option linter.unusedVariables false
set_option linter.unusedSimpArgs false
namespace Go.Proofs.Ytgichkjomhnehaa
open Go.RowKit Go.Shelf

/-- the rest of a row from k on, and its first k -/
theorem RowL.cut {w : World} {B : Nat} {v : Value} {l : List Nat} (h : RowL w B v l) (hl : ∀ x ∈ l, x ≤ 1000000) (k : Nat) (hk : k < l.length) : ∃ g c, v = .slice (some ⟨g, 0, none⟩) l.length c ∧ B ≤ g ∧ g < w.heap.size ∧ l.length ≤ c ∧ c ≤ 9223372036854775807 ∧ ArgI .i64 w (some ⟨g, k, none⟩) (l.length - k) (c - k) (fun i => (((l.drop k).getD i 0 : Nat) : Int)) ∧ ArgI .i64 w (some ⟨g, 0, none⟩) k c (fun i => (((l.take k).getD i 0 : Nat) : Int)) ∧ ArgI .i64 w (some ⟨g, 0, none⟩) l.length c (fun i => ((l.getD i 0 : Nat) : Int)) := by
  obtain ⟨A, c0, hv⟩ := h.slice
  rw [hv] at h
  obtain ⟨g, hA, hg, hc, cs, k1, k2⟩ := h.row (by omega)
  subst hA
  have hcm : c0 ≤ 9223372036854775807 := by
    rcases h.2 with ⟨h0, _⟩ | ⟨_, cap, _, h0, _, _, _, hmx, _⟩
    · cases h0
    · cases h0; simpa [maxLen] using hmx
  have wf : ∀ i, i < l.length → (Lit.int .i64 ((l.getD i 0 : Nat) : Int)).wf = true := fun i hi => fits_wf (by
    rw [List.getD_eq_getElem?_getD, List.getElem?_eq_getElem hi]
    have := hl _ (List.getElem_mem hi)
    show Fits ((l[i] : Nat) : Int)
    exact ⟨by omega, by omega⟩)
  have e1 : ∀ i, (l.drop k).getD i 0 = l.getD (k + i) 0 := fun i => by rw [List.getD_eq_getElem?_getD, List.getElem?_drop, ← List.getD_eq_getElem?_getD]
  have e2 : ∀ i, i < k → (l.take k).getD i 0 = l.getD i 0 := fun i hi => by rw [List.getD_eq_getElem?_getD, List.getElem?_take, if_pos hi, ← List.getD_eq_getElem?_getD]
  refine ⟨g, c0, hv, hg, k1.lt, hc, hcm, ⟨by omega, by omega, fun _ => ⟨g, k, rfl, k1.lt, fun i hi => ?_⟩, fun i hi => ?_⟩, ⟨by omega, hcm, fun _ => ⟨g, 0, rfl, k1.lt, fun i hi => ?_⟩, fun i hi => ?_⟩, ⟨hc, hcm, fun _ => ⟨g, 0, rfl, k1.lt, fun i hi => ?_⟩, wf⟩⟩
  · show _ = some (Value.int .i64 (((l.drop k).getD i 0 : Nat) : Int))
    rw [e1]
    exact (k1.cell (k + i)).trans (k2 (k + i) (by omega))
  · show (Lit.int .i64 (((l.drop k).getD i 0 : Nat) : Int)).wf = true
    rw [e1]
    exact wf (k + i) (by omega)
  · show _ = some (Value.int .i64 (((l.take k).getD i 0 : Nat) : Int))
    rw [e2 i hi, Nat.zero_add]
    exact (k1.cell i).trans (k2 i (by omega))
  · show (Lit.int .i64 (((l.take k).getD i 0 : Nat) : Int)).wf = true
    rw [e2 i hi]
    exact wf i (by omega)
  · rw [Nat.zero_add]; exact (k1.cell i).trans (k2 i hi)
theorem SQ.len {w : World} {b s n x : Nat} {Q : Nat → List Nat} {U : Nat → Int} (h : SQ w b s n Q U) (hx : x < n) : (Q x).length ≤ n ∧ ∀ y ∈ Q x, y ≤ 1000000 := by
  have hab := h.abs hx
  have hn := h.1
  refine ⟨?_, fun y hy => by have := (hab.2.2 y hy).1; omega⟩
  have := nodup_len n ((Q x).map (· + 1)) (List.pairwise_map.2 (hab.2.1.imp (fun h e => h (by omega)))) (fun z hz => by
    obtain ⟨y, hy, rfl⟩ := List.mem_map.1 hz
    have := (hab.2.2 y hy).1
    omega)
  rwa [List.length_map] at this
theorem elem25 : Try.prog.elem 25 = 3 := by kernel_rfl
theorem und25 : Try.prog.underlying 25 = some (.slice (Try.prog.elem 25)) := by rw [elem25]; exact Try.underlying25
theorem slice_from (g L cc k : Nat) (hk : k < L) (hc : L ≤ cc) (w : World) : (Instr.slice 25 (.slice (some ⟨g, 0, none⟩) L cc) (some (.int .i64 (k : Int))) none none).run Try.prog w = .ok (.slice (some ⟨g, k, none⟩) (L - k) (cc - k)) w := by
  rw [run_slice_l w 25 (some ⟨g, 0, none⟩) L cc und25 .i64 (k : Int) (by omega) (by omega), elem25, Try.sizeOf3]
  simp only [Result.andThen, sliced, Int.toNat_natCast]
  rw [if_neg (by omega)]
  simp [Addr.add]
  try omega
theorem slice_to (g L cc k : Nat) (hc : k ≤ cc) (w : World) : (Instr.slice 25 (.slice (some ⟨g, 0, none⟩) L cc) none (some (.int .i64 (k : Int))) none).run Try.prog w = .ok (.slice (some ⟨g, 0, none⟩) k cc) w := by
  rw [run_slice_h w 25 (some ⟨g, 0, none⟩) L cc und25 .i64 (k : Int) (by omega) (by omega), elem25, Try.sizeOf3]
  simp only [Result.andThen, sliced, Int.toNat_natCast]
  by_cases e : cc = 0
  · rw [if_pos e]; simp
  · rw [if_neg e]; simp [Addr.add]
theorem cut_facts {Q : Nat → List Nat} {x k n : Nat} (hk : IsPos Q x k) (hab : x ∈ Q x ∧ (Q x).Nodup ∧ ∀ y ∈ Q x, y < n ∧ Q y = Q x) (h0 : k ≠ 0) :
    ∃ f, (Q x).getD 0 0 = f ∧ f < n ∧ x ∉ splitQ Q x k f ∧ f ∉ splitQ Q x k x ∧ splitQ Q x k f = (Q x).take k ∧ joinQ (splitQ Q x k) f x x = Q x ∧ f ∈ joinQ (splitQ Q x k) f x x := by
  unfold IsPos at hk
  obtain ⟨hkl, hkx⟩ := List.getElem?_eq_some_iff.1 hk
  have hd : x ∈ (Q x).drop k := List.mem_of_getElem? (i := 0) (by rw [List.getElem?_drop]; exact hk)
  have dis : ∀ z, z ∈ (Q x).take k → z ∈ (Q x).drop k → False := fun z h1 h2 => by
    have := hab.2.1
    rw [← List.take_append_drop k (Q x), List.nodup_append] at this
    exact this.2.2 z h1 z h2 rfl
  have ht : x ∉ (Q x).take k := fun e => dis x e hd
  have hx0 : (Q x)[0]? = some ((Q x)[0]'(by omega)) := List.getElem?_eq_getElem (by omega)
  have hf : (Q x)[0]'(by omega) ∈ (Q x).take k := List.mem_of_getElem? (i := 0) (by rw [List.getElem?_take, if_pos (by omega)]; exact hx0)
  refine ⟨(Q x)[0]'(by omega), by rw [List.getD_eq_getElem?_getD, hx0]; rfl, (hab.2.2 _ (List.getElem_mem _)).1, ?_⟩
  have e1 : splitQ Q x k ((Q x)[0]'(by omega)) = (Q x).take k := by unfold splitQ; rw [if_pos hf]
  have e2 : splitQ Q x k x = (Q x).drop k := by unfold splitQ; rw [if_neg ht, if_pos hd]
  have e3 : joinQ (splitQ Q x k) ((Q x)[0]'(by omega)) x x = Q x := by
    unfold joinQ
    rw [e1, e2, if_pos (Or.inr hd), List.take_append_drop]
  refine ⟨by rw [e1]; exact ht, by rw [e2]; exact fun e => dis _ hf e, e1, e3, by rw [e3]; exact List.getElem_mem _⟩
/-- what came out is the same as what one has -/
theorem same_rows {w : World} {l : List Nat} {A A' : Option Addr} {c c' n n' : Nat} (hn : n = l.length) (hn' : n' = l.length) (h : ArgI .i64 w A n c (fun i => ((l.getD i 0 : Nat) : Int))) (h' : ArgI .i64 w A' n' c' (fun i => ((l.getD i 0 : Nat) : Int))) (hl : l.length ≤ 100000) :
    Calls Try.prog 17 #[.slice A n c, .slice A' n' c'] w fun e w' => e = .returned (.bool true) ∧ Below w.heap.size w w' := by
  subst hn
  subst hn'
  refine (same_yes _ c c' A A' _ w h h' hl).mono ?_
  rintro e w' ⟨rfl, m, rfl⟩
  exact ⟨rfl, below_drewN (Below.refl _ _) m⟩
set_option maxRecDepth 100000 in
set_option maxHeartbeats 1500000 in
theorem cuts_walk (n c : Nat) (A : Option Addr) (z : Nat → Nat → Int) (wh : Int) (w : World) (ha : ArgS [.u8, .u8, .u8, .i64] w A n c z) (hw : (Lit.int .u8 wh).wf = true) :
    Calls Try.prog 3 #[.slice A n c, .int .u8 wh] w fun e w' => e = .returned (.bool true) ∧ Below w.heap.size w w' := by
  have x0 := played_ok n c A z w ha
  have hwb := wf_u8 hw
  obtain ⟨x, hx⟩ : ∃ x : Nat, (x : Int) = wh % 40 := ⟨(wh % 40).toNat, by omega⟩
  have hx40 : x < 40 := by omega
  have m1 : wh % 40 = (x : Int) := hx.symm
  have m2 : wh.tmod 40 = (x : Int) := by rw [Int.tmod_eq_emod_of_nonneg (by omega)]; exact hx.symm
  clear hx
  go_enter Try.func3, Try.ntmps3
  go_wp2_with fail
  refine x0.mono ?_
  rintro e w1 ⟨b, s, rfl, h, hb, hs, q⟩
  clear x0
  generalize playP z (min n 200) = P at *
  have hab := h.abs hx40
  have hlen := h.len hx40
  have hsB := h.lt.2.1
  have x1 := list_ok b s 40 P.1 P.2 x w1 h hx40
  go_wp2_with fail
  refine x1.mono ?_
  rintro e w2 ⟨v, rfl, r, h, hT⟩
  have q := below_step q hs hT
  have hg1 := q.size
  clear x1 hT
  have x1 := pos_ok b s 40 P.1 P.2 x w2 h hx40
  go_wp2_with fail
  refine x1.mono ?_
  rintro e w3 ⟨k, rfl, hk, h, hT⟩
  have q := below_step q hs hT
  have r := r.turns hT hsB
  have hkl := (List.getElem?_eq_some_iff.1 hk).1
  obtain ⟨g, cc, hv, hgB, hglt, hlc, hcm, ad, at_, al⟩ := r.cut hlen.2 k hkl
  subst hv
  obtain ⟨L, hL⟩ : ∃ L, (P.1 x).length = L := ⟨_, rfl⟩
  rw [hL] at hkl hlc al ad ⊢
  have hki : (k : Int) < (L : Int) := by omega
  have hkc : (k : Int) ≤ (cc : Int) := by omega
  have hk0 : (0 : Int) ≤ (k : Int) := by omega
  have hD : SQ w3.drew b s 40 P.1 P.2 := h
  have xs := split_ok b s 40 P.1 P.2 x w3.drew hD hx40
  have qD : Below w.heap.size w w3.drew := q.drew
  clear x1 hT
  go_upto_region 6 with fail
  have FIN := Lib.hid (show ∀ (w4 : World) (k4 : Nat), IsPos P.1 x k4 → SQ w4 b s 40 (splitQ P.1 x k4) P.2 → Turns (· = s) w3.drew w4 → SQ w4 b s 40 (splitQ P.1 x k) P.2 ∧ RowL w4 w1.heap.size (.slice (some ⟨g, 0, none⟩) (P.1 x).length cc) (P.1 x) ∧ Below w.heap.size w w4 from fun w4 k4 hk4 h4 hT4 => by
    rw [nodup_idx hab.2.1 hk4 hk] at h4
    exact ⟨h4, RowL.turns (w := w3.drew) r hT4 hsB, below_step qD hs hT4⟩)
  have hsp : splitQ P.1 x k x = (P.1 x).drop k := by
    have hd : x ∈ (P.1 x).drop k := List.mem_of_getElem? (i := 0) (by rw [List.getElem?_drop]; exact hk)
    have ht : x ∉ (P.1 x).take k := fun e => by
      obtain ⟨i, hi, e2⟩ := List.getElem_of_mem e
      rw [List.length_take] at hi
      rw [List.getElem_take] at e2
      have h1 : (P.1 x)[i]? = some x := List.getElem?_eq_some_iff.2 ⟨by omega, e2⟩
      have := nodup_idx hab.2.1 h1 hk
      omega
    unfold splitQ
    rw [if_neg ht, if_pos hd]
  have FIN2 := Lib.hid (show ∀ k5, IsPos (splitQ P.1 x k) x k5 → k5 = 0 from fun k5 h5 => by
    unfold IsPos at h5
    rw [hsp] at h5
    exact nodup_idx (l := (P.1 x).drop k) (hab.2.1.sublist (List.drop_sublist k _)) h5 (by rw [List.getElem?_drop]; exact hk))
  have HSP := Lib.hid hsp
  have HL := Lib.hid hL
  have HLEN := Lib.hid hlen
  have HR := Lib.hid r
  have HAB := Lib.hid hab
  clear hsp hL hlen r hab hD h at_ al ad qD
  have hA1 : decide ((L : Int) ≤ (k : Int)) = false := decide_eq_false (by omega)
  have hA2 : decide (L ≤ k) = false := decide_eq_false (by omega)
  have hA3 : ¬ (L : Int) ≤ (k : Int) := by omega
  have hA4 : decide ((k : Int) < 0) = false := decide_eq_false (by omega)
  have hA5 : ¬ (k : Int) < 0 := by omega
  have hsl := slice_from g L cc k hkl hlc
  have fin6 : ∀ (w6 : World) (v6 : Value) (W : World), RowL w6 W.heap.size v6 (splitQ P.1 x k x) → RowL w6 w1.heap.size (.slice (some ⟨g, 0, none⟩) (P.1 x).length cc) (P.1 x) → ∃ g6 c6, v6 = .slice (some ⟨g6, 0, none⟩) (L - k) c6 ∧ Calls Try.prog 17 #[.slice (some ⟨g6, 0, none⟩) (L - k) c6, .slice (some ⟨g, k, none⟩) (L - k) (cc - k)] w6 fun e w' => e = .returned (.bool true) ∧ Below w6.heap.size w6 w' := fun w6 v6 W r6 rr6 => by
    rw [HSP.out] at r6
    have hdl : ((P.1 x).drop k).length = L - k := by rw [List.length_drop, HL.out]
    obtain ⟨g', c', hv', _, _, _, _, ad', _, _⟩ := rr6.cut HLEN.out.2 k (by rw [HL.out]; exact hkl)
    cases hv'
    obtain ⟨g6, c6, hv6, _, _, _, _, _, _, al6⟩ := r6.cut (fun y hy => HLEN.out.2 y (List.mem_of_mem_drop hy)) 0 (by rw [hdl]; omega)
    rw [hdl] at hv6 al6
    rw [HL.out] at ad'
    exact ⟨g6, c6, hv6, same_rows hdl.symm hdl.symm al6 ad' (by rw [hdl]; have := HLEN.out.1; rw [HL.out] at this; omega)⟩
  have FIN6 := Lib.hid fin6
  clear fin6
  go_region_held3 (fun w' => True) (trivial) (first
    | (go_at_call 17; (with_reducible refine x7.mono ?_); rintro e w7 ⟨rfl, b7⟩; have h7 := h6.below b7; have q7 := below_end q6 q6.size b7; have rr7 := rr6.below b7)
    | (go_at_call 14; (with_reducible refine x6.mono ?_); rintro e w6 ⟨v6, rfl, r6, h6, hT6⟩; have q6 := below_step q5 hs hT6; have rr6 := rr5.turns hT6 hsB; obtain ⟨g6, c6, rfl, x7⟩ := FIN6.out w6 v6 _ r6 rr6; clear r6)
    | (go_at_call 15; (with_reducible refine x5.mono ?_); rintro e w5 ⟨k5, rfl, hk5, h5, hT5⟩; obtain rfl := FIN2.out k5 hk5; have q5 := below_step q4 hs hT5; have rr5 := rr4.turns hT5 hsB; have x6 := list_ok b s 40 _ _ x w5 h5 hx40; clear hk5)
    | (go_at_call 16; (with_reducible refine xs.mono ?_); rintro e w4 ⟨k4, hk4, rfl, h4, hT4⟩; obtain ⟨h4, rr4, q4⟩ := FIN.out w4 k4 hk4 h4 hT4; have x5 := pos_ok b s 40 _ _ x w4 h4 hx40; clear hk4 hT4))
  · have fin7 : ∀ (w8 : World) (v8 : Value) (W : World) (l : List Nat), l = P.1 x → RowL w8 W.heap.size v8 l → RowL w8 w1.heap.size (.slice (some ⟨g, 0, none⟩) (P.1 x).length cc) (P.1 x) → ∃ g6 c6, v8 = .slice (some ⟨g6, 0, none⟩) L c6 ∧ Calls Try.prog 17 #[.slice (some ⟨g6, 0, none⟩) L c6, .slice (some ⟨g, 0, none⟩) L cc] w8 fun e w' => e = .returned (.bool true) ∧ Below w8.heap.size w8 w' := fun w8 v8 W l hl r8 rr8 => by
      subst hl
      obtain ⟨g', c', hv', _, _, _, _, _, _, al'⟩ := rr8.cut HLEN.out.2 k (by rw [HL.out]; exact hkl)
      cases hv'
      obtain ⟨g6, c6, hv6, _, _, _, _, _, _, al6⟩ := r8.cut HLEN.out.2 k (by rw [HL.out]; exact hkl)
      have hLL := HL.out
      rw [hLL] at hv6 al6 al'
      exact ⟨g6, c6, hv6, same_rows hLL.symm hLL.symm al6 al' (by have := HLEN.out.1; omega)⟩
    have FIN7 := Lib.hid fin7
    clear fin7
    by_cases e0 : k = 0
    · have he0 : ((k : Int) == 0) = true := by
        rw [beq_iff_eq]; omega
      have HSP0 := Lib.hid (show splitQ P.1 x k x = P.1 x by rw [HSP.out, e0]; rfl)
      have x8 := list_ok b s 40 _ _ x w7 h7 hx40
      go_wp2_with fail
      (with_reducible refine x8.mono ?_)
      rintro e w8 ⟨v8, rfl, r8, h8, hT8⟩; have q8 := below_step q7 hs hT8; have rr8 := rr7.turns hT8 hsB; obtain ⟨g8, c8, rfl, x9⟩ := FIN7.out w8 v8 _ _ HSP0.out r8 rr8; clear r8
      go_wp2_with fail
      (with_reducible refine x9.mono ?_)
      rintro e w9 ⟨rfl, b9⟩; have h9 := h8.below b9; have q9 := below_end q8 q8.size b9; have x10 := works_ok w9
      go_wp2_with fail
      (with_reducible refine x10.mono ?_)
      rintro e wa ⟨rfl, ba⟩; have qa := below_end q9 q9.size ba
      clear FIN FIN2 FIN6 FIN7 HSP HSP0
      go_wp2_with fail
      go_ret
      exact ⟨rfl, qa⟩
    · have he0 : ((k : Int) == 0) = false := by
        rw [beq_eq_false_iff_ne]; omega
      obtain ⟨f, hf0, hf, hfx, hxf, hft, hj1, hj2⟩ := cut_facts hk HAB.out e0
      have FIN11 := Lib.hid (show ∀ (w9 : World) (v9 : Value) (W : World), RowL w9 W.heap.size v9 (splitQ P.1 x k f) → RowL w9 w1.heap.size (.slice (some ⟨g, 0, none⟩) (P.1 x).length cc) (P.1 x) → ∃ g6 c6, v9 = .slice (some ⟨g6, 0, none⟩) k c6 ∧ Calls Try.prog 17 #[.slice (some ⟨g6, 0, none⟩) k c6, .slice (some ⟨g, 0, none⟩) k cc] w9 fun e w' => e = .returned (.bool true) ∧ Below w9.heap.size w9 w' from fun w9 v9 W r9 rr9 => by
        rw [hft] at r9
        have htl : ((P.1 x).take k).length = k := by rw [List.length_take, HL.out]; omega
        obtain ⟨g', c', hv', _, _, _, _, _, at', _⟩ := rr9.cut HLEN.out.2 k (by rw [HL.out]; exact hkl)
        cases hv'
        obtain ⟨g6, c6, hv6, _, _, _, _, _, _, al6⟩ := r9.cut (fun y hy => HLEN.out.2 y (List.mem_of_mem_take hy)) 0 (by rw [htl]; omega)
        rw [htl] at hv6 al6
        exact ⟨g6, c6, hv6, same_rows htl.symm htl.symm al6 at' (by rw [htl]; have := HLEN.out.1; rw [HL.out] at this; omega)⟩)
      have FPOS := Lib.hid (show ∀ k5, IsPos (joinQ (splitQ P.1 x k) f x) x k5 → k5 = k from fun k5 h5 => by
        unfold IsPos at h5 hk
        rw [hj1] at h5
        exact nodup_idx HAB.out.2.1 h5 hk)
      have hc0 : w7.cell? ⟨g, 0, none⟩ = some (.int .i64 (f : Int)) := by
        obtain ⟨g', c', hv', _, _, _, _, _, at7, al7⟩ := rr7.cut HLEN.out.2 k (by rw [HL.out]; exact hkl)
        cases hv'
        obtain ⟨g2, o2, e2, _, hc⟩ := al7.2.2.1 (by rw [HL.out]; omega)
        cases e2
        have this : w7.cell? ⟨g, 0, none⟩ = some (.int .i64 (((P.1 x).getD 0 0 : Nat) : Int)) := hc 0 (by rw [HL.out]; omega)
        rw [hf0] at this
        exact this
      have h7d : SQ w7.drew b s 40 (splitQ P.1 x k) P.2 := h7
      have rr7d : RowL w7.drew w1.heap.size (.slice (some ⟨g, 0, none⟩) (P.1 x).length cc) (P.1 x) := rr7
      have q7d := q7.drew
      have x8 := same_ok b s 40 _ _ f x w7.drew h7d hf hx40
      rw [show sameB (splitQ P.1 x k) f x = false from decide_eq_false hfx] at x8
      have hst := slice_to g L cc k (by omega)
      have HJ1 := Lib.hid hj1
      have HJ2 := Lib.hid hj2
      clear hj1 hj2 hft hf0
      go_wp2_with fail
      go_region_held3 (fun w' => True) (trivial) (first
        | (go_at_call 17; (with_reducible refine x10.mono ?_); rintro e wa ⟨rfl, ba⟩; have ha := h9.below ba; have qa := below_end q9 q9.size ba; have rra := rr9.below ba; have xj := join_ok b s 40 _ _ f x wa ha hf hx40 hfx)
        | (go_at_call 14; (with_reducible refine x9.mono ?_); rintro e w9 ⟨v9, rfl, r9, h9, hT9⟩; have q9 := below_step q8 hs hT9; have rr9 := rr8.turns hT9 hsB; obtain ⟨g9, c9, rfl, x10⟩ := FIN11.out w9 v9 _ r9 rr9; clear r9)
        | (go_at_call 19; (with_reducible refine x8.mono ?_); rintro e w8 ⟨rfl, h8, hT8⟩; have q8 := below_step q7d hs hT8; have rr8 := rr7d.turns hT8 hsB; have x9 := list_ok b s 40 _ _ f w8 h8 hf)
        | (go_at_call 20; (with_reducible refine xj.mono ?_); rintro e wb ⟨rfl, hb, hTb⟩; have qb := below_step qa hs hTb; have rrb := rra.turns hTb hsB; have xl := list_ok b s 40 _ _ x wb hb hx40))
      go_wp2_with fail
      (with_reducible refine xl.mono ?_)
      rintro e wc ⟨vc, rfl, rc, hc', hTc⟩; have qc' := below_step qb hs hTc; have rrc := rrb.turns hTc hsB; obtain ⟨gc, cc', rfl, x11⟩ := FIN7.out wc vc _ _ HJ1.out rc rrc; clear rc
      go_wp2_with fail
      (with_reducible refine x11.mono ?_)
      rintro e wd ⟨rfl, bd⟩; have hc := hc'.below bd; have qc := below_end qc' qc'.size bd; have xp := pos_ok b s 40 _ _ x wd hc hx40
      go_wp2_with fail
      (with_reducible refine xp.mono ?_)
      rintro e we ⟨k5, rfl, hk5, hd, hTd⟩; obtain rfl := FPOS.out k5 hk5; have qd := below_step qc hs hTd; have xh := join_have b s 40 _ _ x f we hd hx40 hf HJ2.out; clear hk5
      go_wp2_with fail
      (with_reducible refine xh.mono ?_)
      rintro e wf ⟨rfl, he, hTe⟩; have qe := below_step qd hs hTe; have xw := works_ok wf
      go_wp2_with fail
      (with_reducible refine xw.mono ?_)
      rintro e wg ⟨rfl, bf⟩; have qf := below_end qe qe.size bf
      clear FIN FIN2 FIN6 FIN7 FIN11 HSP
      go_wp2_with fail
      go_ret
      exact ⟨rfl, qf⟩
end Go.Proofs.Ytgichkjomhnehaa
