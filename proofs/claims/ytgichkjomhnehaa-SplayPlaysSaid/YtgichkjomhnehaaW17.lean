/-
  List.
-/
import Derived.Test.YtgichkjomhnehaaW16
set_option linter.unusedVariables false
set_option linter.unusedSimpArgs false
namespace Go.Proofs.Ytgichkjomhnehaa
open Go.RowKit Go.Shelf

/-- append of one number to a row, and where the new one lies -/
theorem wpList_append_num_at {ops : Array Oper} {rest : List Oper} {o : Oper} {a : Act} {w : World} {Q : Exit → Act → World → Prop} (hgd : o.guard = none) (s x : Operand) (ho : o.op = .call { callee := .builtin .append, args := #[s, x], argTypes := #[25, 25] })
    (B : Nat) (v : Value) (l : List Nat) (y g : Nat) (hs : a.eval s = v) (hR : RowL w B v l) (hx : a.eval x = .slice (some ⟨g, 0, none⟩) 1 1) (hc : w.cell? ⟨g, 0, none⟩ = some (.int .i64 (y : Int)))
    (hn : l.length ≤ 100000) (hB : B ≤ w.heap.size)
    (h : ∀ v' w', RowL w' B v' (l ++ [y]) → w.grownBy w' v.ownBlock → (v'.ownBlock = v.ownBlock ∨ v'.ownBlock = some w.heap.size) → wpList Try.prog ops Q rest (a.put o.dst v') w') :
    wpList Try.prog ops Q (o :: rest) a w := by
  obtain ⟨i0, hi, hz0, hz1, hz2⟩ := info_parts info3
  refine wpList_append_own_at w hgd s x 25 ho B 3 i0 (.int .i64 0) 1 8 Try.underlying25 hi hz0 hz1 hz2 rfl (by decide) v l.length (nums l) hs hR ⟨g, 0, none⟩ 1 1 [.int .i64 (y : Int)] hx rfl ?_ ?_ (by simp only [maxLen]; omega) (by omega) hB ?_
  · intro j u hu
    rcases j with _ | j
    · simp at hu
      subst hu
      exact hc
    · simp at hu
  · intro u hu
    simp at hu
    subst hu
    rfl
  · intro v' w' h2 h3 _ h5
    refine h v' w' ?_ h3 h5
    have e : nums (l ++ [y]) = nums l ++ [.int .i64 (y : Int)] := by simp [nums]
    unfold RowL
    rw [e, List.length_append]
    exact h2
theorem RowL.turns {w w' : World} {B s : Nat} {v : Value} {l : List Nat} (h : RowL w B v l) (hT : Turns (· = s) w w') (hs : s < B) : RowL w' B v l := by
  refine ⟨h.1, h.2.imp id ?_⟩
  rintro ⟨g, cap, cur, hv, hg, hh, r⟩
  exact ⟨g, cap, cur, hv, hg, (hT.block g (Blk.lt (w := w) (t := 3) (cs := cur) hh) (by omega)).trans hh, r⟩
/-- the last one off -/
theorem RowL.pop {w : World} {B n c : Nat} {A : Option Addr} {l : List Nat} {j : Nat} (h : RowL w B (.slice A n c) (l ++ [j])) : ∃ g, A = some ⟨g, 0, none⟩ ∧ n = l.length + 1 ∧ n ≤ c ∧ w.cell? ⟨g, l.length, none⟩ = some (.int .i64 (j : Int)) ∧ RowL w B (.slice (some ⟨g, 0, none⟩) l.length c) l := by
  obtain ⟨h1, h2⟩ := h
  rcases h2 with ⟨_, h0⟩ | ⟨g, cap, cur, hv, hg, hh, hc, hm, hs, ht⟩
  · simp at h0
  · cases hv
    have e : nums (l ++ [j]) = nums l ++ [.int .i64 (j : Int)] := by simp [nums]
    rw [e, List.length_append] at ht
    simp only [List.length_singleton, Nat.mul_one] at ht
    have hlen : (nums l).length = l.length := nums_len l
    have ht2 : cur.toList.take l.length = nums l := by
      have := congrArg (List.take l.length) ht
      rw [List.take_take, Nat.min_eq_left (by omega), List.take_append_of_le_length (by omega)] at this
      rw [this]
      exact List.take_of_length_le (by omega)
    refine ⟨g, rfl, by simp, by simpa using hc, ?_, by rw [nums_len, Nat.mul_one], Or.inr ⟨g, c, cur, rfl, hg, hh, by simp at hc; omega, hm, hs, by rw [Nat.mul_one]; exact ht2⟩⟩
    have hk := congrArg (fun t => t[l.length]?) ht
    simp only [List.getElem?_take] at hk
    rw [if_pos (by omega), List.getElem?_append_right (by omega), hlen, Nat.sub_self] at hk
    refine (Blk.cell (w := w) (t := 3) (cs := cur) hh _).trans ?_
    rw [← Array.getElem?_toList]
    exact hk
theorem run_make25_0 (n : Nat) (hn : n ≤ 100000) (w : World) :
    (Instr.makeSlice 25 (.int .i64 0) (.int .i64 (n : Int))).run Try.prog w = .ok (.slice (some ⟨w.heap.size, 0, none⟩) 0 n) (w.alloc (.cells (zerosK .i64 n) 3)) := by
  obtain ⟨i0, hi, hz0, hz1, hz2⟩ := info_parts info3
  have hr := Go.run_make (P := Try.prog) w 25 3 i0 (.int .i64 0) Try.underlying25 hi hz0 .i64 .i64 (0 : Nat) n (by omega) (by omega) (by rw [hz2]; omega) (by omega)
  simp only [Int.toNat_natCast] at hr
  rw [show (((0 : Nat) : Int)) = 0 from rfl] at hr
  rw [hr, hz1, Nat.mul_one]
  rfl
theorem made_row (w : World) (n : Nat) (hn : n ≤ 100000) : RowL (w.alloc (.cells (zerosK .i64 n) 3)) w.heap.size (.slice (some ⟨w.heap.size, 0, none⟩) 0 n) [] :=
  ⟨rfl, .inr ⟨w.heap.size, n, zerosK .i64 n, rfl, Nat.le_refl _, Blk.new w 3 _, Nat.zero_le _, by simp only [maxLen]; omega, by unfold zerosK; rw [← Array.length_toList, toList_madeCells_one, List.length_replicate, Nat.mul_one], rfl⟩⟩
set_option maxRecDepth 100000 in
set_option maxHeartbeats 2000000 in
theorem list_ok (b s n : Nat) (Q : Nat → List Nat) (U : Nat → Int) (x : Nat) (w : World) (h : SQ w b s n Q U) (hx : x < n) :
    Calls Try.prog 14 #[.pointer (some ⟨b, 0, none⟩), .int .i64 (x : Int)] w fun e w' => ∃ v, e = .returned v ∧ RowL w' w.heap.size v (Q x) ∧ SQ w' b s n Q U ∧ Turns (· = s) w w' := by
  have x0 := hasQ_ok b s n Q U (x : Int) w h
  rw [hasB_nat hx] at x0
  have x1 := liftQ_ok b s n Q U x w h hx
  have hn := h.1
  have hsl := h.lt
  go_enter Try.func14, Try.ntmps14
  go_wp2_with fail
  refine x0.mono ?_
  rintro e w' ⟨rfl, rfl⟩
  go_wp2_with fail
  refine x1.mono ?_
  rintro e w1 ⟨rfl, ⟨st, V, S, l, r, F, hU⟩, hT⟩
  have hx1 : x + 1 ≤ n := by omega
  have c5 : w1.cell? ⟨s, (x + 1) * 9 + 5, none⟩ = some (.int .i64 ((st (x + 1)).size : Int)) := hU.2.1.2.cell hx1 5 (by decide)
  rw [hU.size] at c5
  have hle := hU.len
  obtain ⟨N, hN⟩ : ∃ N, (Q x).length = N := ⟨_, rfl⟩
  rw [hN] at c5 hle
  have HN := Lib.hid hN
  have hmk := run_make25_0 N (by omega) w1
  have hb := below_new1 w1 (.cells (zerosK .i64 N) 3)
  have hrow := made_row w1 N (by omega)
  have hS1 := hU.2.1.below hb
  have hT1 := hT.alloc (.cells (zerosK .i64 N) 3)
  obtain ⟨hw, hE⟩ := hU.2.2.1.1.env hU.2.2.2.1 hn
  have hTr := Lib.hid (Trav.start hw)
  have HE0 := Lib.hid hE
  have HU := Lib.hid hU
  have hg1 := hT.size
  have hsz := hb.size
  have hsB : s < w1.heap.size := by omega
  clear hU hw hE x0 x1 hN hT hb
  go_upto_region 4 with fail
  clear hmk c5
  have hlt2 : w1.heap.size < (w1.alloc (.cells (zerosK .i64 N) 3)).heap.size := by simp
  obtain ⟨B, hB⟩ : ∃ B, w1.heap.size = B := ⟨_, rfl⟩
  rw [hB] at hrow hg1 hsB hlt2 ⊢
  generalize w1.alloc (.cells (zerosK .i64 N) 3) = W1 at *
  clear hB hsz
  go_wp2_with fail
  go_loopg [5, 6, 7] (2 * N) (fun m v5 v6 vi wr => ∃ (cur : Nat) (op qs : List Nat) (st2 : Nat → Nd) (A5 : Option Addr) (k5 c5 : Nat) (A6 : Option Addr) (k6 c6 : Nat), m = 2 * N - (2 * k5 + k6) ∧ v5 = .slice A5 k5 c5 ∧ v6 = .slice A6 k6 c6 ∧ vi = .int .i64 cur ∧ Hid (k5 = qs.length ∧ k6 = op.length) ∧ SP wr b s n st2 ∧
    Hid (Trav V st2 cur op (qs.map (· + 1)) (T.node l (x + 1) false r).seq (T.node l (x + 1) false r).ids) ∧ Hid (∀ k, k ∉ (T.node l (x + 1) false r).ids → st2 k = st k) ∧ Hid (Env V n st2 (T.node l (x + 1) false r).ids) ∧ RowL wr B (.slice A5 k5 c5) qs ∧ RowL wr B (.slice A6 k6 c6) op ∧
    Hid ((Value.slice A5 k5 c5).ownBlock = none ∨ (Value.slice A5 k5 c5).ownBlock ≠ (Value.slice A6 k6 c6).ownBlock) ∧ Turns (· = s) w wr ∧ B < wr.heap.size)
  case atStart => exact ⟨x + 1, [], [], st, some ⟨B, 0, none⟩, 0, N, none, 0, 0, by simp, rfl, rfl, by simp, Lib.hid ⟨rfl, rfl⟩, hS1, hTr, Lib.hid (fun k _ => rfl), HE0, hrow, RowL.nil _ _, Lib.hid (Or.inr (by simp [Value.ownBlock])), hT1, hlt2⟩
  case round =>
    clear hS1 hTr HE0 hrow hT1 hlt2
    obtain ⟨cur, op, qs, st2, A5, k5, c5, A6, k6, c6, rfl, rfl, rfl, rfl, HK, kS, HT, HO, HE, r5, r6, HA, hT, hB⟩ := hrel
    have hlen := HT.out.len
    have hsl2 : (T.node l (x + 1) false r).seq.length = N := by rw [show (T.node l (x + 1) false r).seq = l.seq ++ (x + 1) :: r.seq from rfl, ← HU.out.seq, List.length_map]; exact HN.out
    rw [hsl2, List.length_map, ← HK.out.1, ← HK.out.2] at hlen
    -- one row grows, the other abides
    have grow : ∀ (st2 : Nat → Nd) (X : Int) (y : Nat) (A : Option Addr) (k c : Nat) (lst : List Nat) (A' : Option Addr) (k' c' : Nat) (lst' : List Nat) (W : World), X = (y : Int) → SP W b s n st2 → Turns (· = s) w W → B < W.heap.size → RowL W B (.slice A k c) lst → RowL W B (.slice A' k' c') lst' → ((Value.slice A' k' c').ownBlock = none ∨ (Value.slice A' k' c').ownBlock ≠ (Value.slice A k c).ownBlock) →
        RowL (W.alloc (.cells #[.int .i64 X] 3)) B (.slice A k c) lst ∧ (W.alloc (.cells #[.int .i64 X] 3)).cell? ⟨W.heap.size, 0, none⟩ = some (.int .i64 (y : Int)) ∧ B ≤ (W.alloc (.cells #[.int .i64 X] 3)).heap.size ∧
        ∀ (v' : Value) (w3 : World), RowL w3 B v' (lst ++ [y]) → (W.alloc (.cells #[.int .i64 X] 3)).grownBy w3 (Value.slice A k c).ownBlock → (v'.ownBlock = (Value.slice A k c).ownBlock ∨ v'.ownBlock = some (W.alloc (.cells #[.int .i64 X] 3)).heap.size) →
          ∃ A7 k7 c7, v' = .slice A7 k7 c7 ∧ Hid (k7 = (lst ++ [y]).length) ∧ RowL w3 B (.slice A7 k7 c7) (lst ++ [y]) ∧ SP w3 b s n st2 ∧ RowL w3 B (.slice A' k' c') lst' ∧ Turns (· = s) w w3 ∧ B < w3.heap.size ∧
            Hid ((Value.slice A' k' c').ownBlock = none ∨ (Value.slice A' k' c').ownBlock ≠ (Value.slice A7 k7 c7).ownBlock) := fun st2 X y A k c lst A' k' c' lst' W hX kS hT hB r5 r6 hA => by
      have hRA := r5.below (below_new1 W (.cells #[.int .i64 X] 3))
      have kSA := kS.below (below_new1 W (.cells #[.int .i64 X] 3))
      have r6A := r6.below (below_new1 W (.cells #[.int .i64 X] 3))
      have hTA := hT.alloc (.cells #[.int .i64 X] 3)
      refine ⟨hRA, by rw [← hX]; exact (Blk.new W 3 #[.int .i64 X]).cell 0, by simp; omega, fun v' w3 q1 q2 q3 => ?_⟩
      obtain ⟨A7, c7, rfl⟩ := q1.slice
      have hbase := hRA.base
      have hsz3 := q2.size
      refine ⟨A7, _, c7, rfl, Lib.hid rfl, q1, ?_, World.ownsRow.kept r6A q2 hA, ?_, by simp at hsz3; omega, Lib.hid ?_⟩
      · have hlt := kSA.lt
        exact kSA.heap (q2.block b hlt.1 (fun e => by have := hbase _ e.symm; omega)) (q2.block s hlt.2 (fun e => by have := hbase _ e.symm; omega))
      · refine ⟨q2.os.trans hTA.os, q2.tape.trans hTA.tape, q2.output.trans hTA.output, Nat.le_trans hTA.size q2.size, fun k hk hks => (q2.block k (Nat.lt_of_lt_of_le hk hTA.size) (fun e => by have := hbase _ e.symm; omega)).trans (hTA.block k hk hks)⟩
      · rcases q3 with e | e
        · rw [e]; exact hA
        · rw [e]
          cases ho : (Value.slice A' k' c').ownBlock with
          | none => exact Or.inl rfl
          | some g =>
            right
            intro k
            have hg := (World.ownsRow.lt r6A g ho).2
            have k2 : g = (W.alloc (.cells #[.int .i64 X] 3)).heap.size := Option.some.inj k
            omega
    by_cases hc0 : cur = 0
    · subst hc0
      rcases List.eq_nil_or_concat op with rfl | ⟨op', j, e⟩
      · have HD := Lib.hid HT.out.done
        have hr5 := Lib.hid r5
        have HE2 := HE
        obtain rfl : k6 = 0 := HK.out.2
        clear hlen hsl2 r5 r6 grow
        go_wp2_with fail
        go_ret
        obtain ⟨e1, t', hw'⟩ := HD.out
        have hU := HU.out
        rw [show (T.node l (x + 1) false r).seq = l.seq ++ (x + 1) :: r.seq from rfl, ← hU.seq] at e1
        have e2 := succ_inj e1
        rw [← e2]
        exact ⟨_, rfl, hr5.out.mono (by omega), ⟨hn, st2, V, S, _, kS, hU.2.2.1.same (t' := t') hw' HO.out, hU.2.2.2⟩, hT⟩
      · rw [List.concat_eq_append] at e
        subst e
        obtain ⟨hl1, _, hl3, _⟩ := hlen
        have hj := hl3 j (by simp)
        have hjn := HE.out.mem j hj.1
        obtain ⟨g6, hg6, e6, hc6, cj, r6'⟩ := r6.pop
        subst hg6
        obtain ⟨y, hy⟩ : ∃ y, j = y + 1 := ⟨j - 1, by omega⟩
        have hy1 : (j : Int) - 1 = (y : Int) := by omega
        have HY := Lib.hid hy
        have HUP := Lib.hid HT.out.up
        obtain ⟨o, ho⟩ : ∃ o, op'.length = o := ⟨_, rfl⟩
        have HOP := Lib.hid ho
        rw [ho] at e6 cj r6'
        have hA6 : (Value.slice (some ⟨g6, 0, none⟩) o c6).ownBlock = none ∨ (Value.slice (some ⟨g6, 0, none⟩) o c6).ownBlock ≠ (Value.slice A5 k5 c5).ownBlock := by
          right
          rcases HA.out with e | e
          · rw [e]; simp [Value.ownBlock]
          · exact fun k => e k.symm
        obtain ⟨hRA, hkc, hzA, fin⟩ := grow st2 ((j : Int) - 1) y A5 k5 c5 qs (some ⟨g6, 0, none⟩) o c6 op' wr hy1 kS hT hB r5 r6' hA6
        have HKC := Lib.hid hkc
        have FIN := Lib.hid fin
        have hqs : k5 ≤ 100000 := by omega
        have HQS := Lib.hid (show qs.length ≤ 100000 by rw [← HK.out.1]; exact hqs)
        have hj0 : 1 ≤ (j : Int) := by omega
        have hjn2 : (j : Int) < (n : Int) + 1 := by omega
        have e6' : (k6 : Int) - 1 = (o : Int) := by omega
        have hm0 : (0 : Int) < (k6 : Int) := by omega
        have hoc : o ≤ c6 := by omega
        have hok : (o : Int) < (k6 : Int) := by omega
        have hjl := hjn.2
        have hc63 : c6 ≤ 9223372036854775807 := by
          rcases r6.2 with ⟨h0, _⟩ | ⟨_, cap, _, h0, _, _, _, hmx, _⟩
          · cases h0
          · cases h0; simpa [maxLen] using hmx
        clear fin hkc r6' r6 r5 hy hl3 hsl2 hj hy1 ho grow hA6 kS hT hjn
        go_wp2_with (at_builtin; refine wpList_append_num_at rfl _ _ rfl B (.slice A5 k5 c5) qs y wr.heap.size rfl hRA rfl HKC.out HQS.out hzA ?_; intro v' w3 q1 q2 q3; obtain ⟨A7, k7, c7, rfl, d0, d1, d2, d3, d4, d5, d6⟩ := FIN.out v' w3 q1 q2 q3; clear q1 q2 q3; have ck1 : w3.cell? ⟨s, j * 9 + 1, none⟩ = some (.int .i64 ((st2 j).k1 : Int)) := d2.2.cell hjl 1 (by decide); obtain ⟨cc, cb, cb1, cb2⟩ := d2.cell1)
        have e7 := d0.out
        rw [List.length_append, List.length_singleton, ← HK.out.1] at e7
        go_roundg (2 * N - (2 * k7 + o))
        case measure => omega
        case rel =>
          refine ⟨(st2 j).k1, op', qs ++ [y], st2, A7, k7, c7, some ⟨g6, 0, none⟩, o, c6, rfl, rfl, rfl, rfl, Lib.hid ⟨d0.out, HOP.out.symm⟩, d2, Lib.hid ?_, HO, HE, d1, d3, Lib.hid ?_, d4, d5⟩
          · have := HUP.out
            rw [HY.out] at this
            rw [List.map_append, HY.out]
            exact this
          · rcases d6.out with e | e
            · simp [Value.ownBlock] at e
            · exact Or.inr (Ne.symm e)
    · obtain ⟨_, hl2, _, hl4⟩ := hlen
      have hl2 := hl2 hc0
      have hcn := (HE.out.mem cur (hl4 hc0)).2
      obtain ⟨hdn, hoff⟩ := HT.out.down HE.out.nd hc0
      have xp := push_ok b s n st2 cur wr kS hn hcn (HE.out.kb cur).1 (HE.out.kb cur).2
      have HE3 := Lib.hid (HE.out.push hoff)
      have HO3 := Lib.hid (fun k (hk : k ∉ (T.node l (x + 1) false r).ids) => (hoff k hk).trans (HO.out k hk))
      have HDN := Lib.hid hdn
      have hc1 : ((cur : Int) == 0) = false := not_eq_nat hc0
      have hc2 : ¬ (cur : Int) = 0 := by omega
      have hci : (cur : Int) < (n : Int) + 1 := by omega
      have GR := Lib.hid grow
      clear grow hdn hoff hsl2 hl4
      go_wp2_with fail
      refine xp.mono ?_
      rintro e W1 ⟨rfl, kS1, kT⟩
      have hT1 := hT.trans kT
      have hsW := kT.size
      have r5' := r5.turns kT hsB
      have r6' := r6.turns kT hsB
      generalize pushF st2 cur = st3 at *
      obtain ⟨hRA, hkc, hzA, fin⟩ := GR.out st3 (cur : Int) cur A6 k6 c6 op A5 k5 c5 qs W1 rfl kS1 hT1 (by omega) r6' r5' HA.out
      have HKC := Lib.hid hkc
      have FIN := Lib.hid fin
      have HQS := Lib.hid (show op.length ≤ 100000 by rw [← HK.out.2]; omega)
      clear xp kS kT hT r5 r6 fin hkc kS1 hT1 r5' r6'
      go_wp2_with (at_builtin; refine wpList_append_num_at rfl _ _ rfl B (.slice A6 k6 c6) op cur W1.heap.size rfl hRA rfl HKC.out HQS.out hzA ?_; intro v' w3 q1 q2 q3; obtain ⟨A7, k7, c7, rfl, d0, d1, d2, d3, d4, d5, d6⟩ := FIN.out v' w3 q1 q2 q3; clear q1 q2 q3; have ck0 : w3.cell? ⟨s, cur * 9, none⟩ = some (.int .i64 ((st3 cur).k0 : Int)) := d2.2.cell hcn 0 (by decide); obtain ⟨cc, cb, cb1, cb2⟩ := d2.cell1)
      have e7 := d0.out
      rw [List.length_append, List.length_singleton, ← HK.out.2] at e7
      go_roundg (2 * N - (2 * k5 + k7))
      case measure => omega
      case rel => exact ⟨(st3 cur).k0, op ++ [cur], qs, st3, A5, k5, c5, A7, k7, c7, rfl, rfl, rfl, rfl, Lib.hid ⟨HK.out.1, d0.out⟩, d2, HDN, HO3, HE3, d3, d1, d6, d4, d5⟩
end Go.Proofs.Ytgichkjomhnehaa
