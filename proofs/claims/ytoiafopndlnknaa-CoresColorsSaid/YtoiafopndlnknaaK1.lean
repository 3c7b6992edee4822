/-
  The document's Peel.
-/
import Derived.Test.YtoiafopndlnknaaJ1
set_option linter.unusedVariables false
set_option linter.unusedSimpArgs false
namespace Go.Proofs.Ytoiafopndlnknaa
open Go.RowKit Go.Shelf

/-- the edges of an argument -/
def EA (w : World) (A : Option Addr) (c : Nat) (E : Es) : Prop := ∃ y, ArgS k3 w A E.length c y ∧ ∀ i, i < E.length → y i 0 = ((edge E i).1 : Nat) ∧ y i 1 = ((edge E i).2 : Nat)
theorem EA.below {w w' : World} {A : Option Addr} {c : Nat} {E : Es} (h : EA w A c E) (hb : Below w.heap.size w w') : EA w' A c E := by obtain ⟨y, h1, h2⟩ := h; exact ⟨y, h1.below hb, h2⟩
theorem EL.ea {w : World} {B : Nat} {v : Value} {E : Es} {n : Nat} (h : EL w B v E) (hF : Fine n E) : ∃ A c, v = .slice A E.length c ∧ EA w A c E ∧ (0 < E.length → ∃ g, A = some ⟨g, 0, none⟩ ∧ B ≤ g) := by
  obtain ⟨A, c, y, e, ha, hy, hg⟩ := h.arg (fun i hi => by have := fine_edge hF hi; have := hF.1; omega)
  exact ⟨A, c, e, ⟨y, ha, hy⟩, hg⟩
theorem EA.edge {w : World} {A : Option Addr} {c : Nat} {E : Es} (h : EA w A c E) {i : Nat} (hi : i < E.length) :
    ∃ g o, A = some ⟨g, o, none⟩ ∧ g < w.heap.size ∧ w.cell? ⟨g, o + i * 3, none⟩ = some (.int .i64 ((Go.Proofs.Ytoiafopndlnknaa.edge E i).1 : Nat)) ∧ w.cell? ⟨g, o + i * 3 + 1, none⟩ = some (.int .i64 ((Go.Proofs.Ytoiafopndlnknaa.edge E i).2 : Nat)) := by
  obtain ⟨y, ha, hy⟩ := h
  obtain ⟨g, o, e, hg, c0, c1, _⟩ := ha.edge hi
  rw [(hy i hi).1] at c0
  rw [(hy i hi).2] at c1
  exact ⟨g, o, e, hg, c0, c1⟩
theorem EA.len {w : World} {A : Option Addr} {c : Nat} {E : Es} (h : EA w A c E) : E.length ≤ c ∧ c ≤ 9223372036854775807 := by obtain ⟨y, ha, hy⟩ := h; exact ⟨ha.1, ha.2.1⟩
set_option maxRecDepth 100000 in
set_option maxHeartbeats 4000000 in
theorem rdegree_ok {w : World} {A : Option Addr} {c n : Nat} {E : Es} (ha : EA w A c E) (hF : Fine n E) {gl : Nat} {L : Nat → Bool} (hL : RowB w gl n L) {v : Nat} (hv : v < n) :
    Calls Try.prog 66 #[.slice A E.length c, .slice (some ⟨gl, 0, none⟩) n n, .int .i64 (v : Int)] w fun e w' => e = .returned (.int .i64 (dg E L v : Nat)) ∧ w = w' := by
  have hm := hF.2.1
  have hn := hF.1
  have hcl := ha.len
  obtain ⟨m, hm'⟩ : ∃ m, E.length = m := ⟨_, rfl⟩
  have HED := Lib.hid (fun i (hi : i < E.length) => ha.edge hi)
  have HFE := Lib.hid (fun i (hi : i < E.length) => fine_edge hF hi)
  have HLC := Lib.hid (fun i (hi : i < n) => hL.cell hi)
  have HDG := Lib.hid (show dg E L v = dgK E L v E.length from rfl)
  have HS := Lib.hid (show ∀ i, dgK E L v (i + 1) = dgK E L v i + if touch (edge E i) L v = true then 1 else 0 from fun i => rfl)
  have HB := Lib.hid (show ∀ k, dgK E L v k ≤ k from fun k => by
    induction k with
    | zero => exact Nat.le_refl _
    | succ k ih => show _ + _ ≤ _; split <;> omega)
  rw [hm'] at hm hcl HED HFE HDG ⊢
  clear ha hF hm' hL
  go_enter Try.func66, Try.ntmps66
  go_wp2_with fail
  go_loopw [7, 8] (fun v7 v8 wr => ∃ i : Nat, v8 = .int .i64 i ∧ i ≤ m ∧ v7 = .int .i64 (dgK E L v i : Nat) ∧ w = wr) (fun _ v _ => 20000 - (intOf v).toNat)
  case atStart => exact ⟨0, rfl, Nat.zero_le _, rfl, rfl⟩
  case round =>
    obtain ⟨i, rfl, hi, rfl, rfl⟩ := hrel
    by_cases hlt : i < m
    · have him : (i : Int) < (m : Int) := by omega
      obtain ⟨g, o, rfl, hg, c0, c1⟩ := HED.out i hlt
      obtain ⟨h1, h2, _⟩ := HFE.out i hlt
      have HT := Lib.hid (HS.out i)
      have hq := HB.out i
      obtain ⟨q, hq'⟩ : ∃ q, dgK E L v i = q := ⟨_, rfl⟩
      rw [hq'] at HT hq ⊢
      obtain ⟨a, ha⟩ : ∃ a, (edge E i).1 = a := ⟨_, rfl⟩
      obtain ⟨b, hb⟩ : ∃ a, (edge E i).2 = a := ⟨_, rfl⟩
      have HT := Lib.hid (show dgK E L v (i + 1) = q + if ((a == v && L b) || (b == v && L a)) = true then 1 else 0 from by rw [HT.out]; unfold touch; rw [ha, hb])
      rw [ha] at c0 h1
      rw [hb] at c1 h2
      have d0 := HLC.out a h1
      have d1 := HLC.out b h2
      obtain ⟨la, hla⟩ : ∃ x, L a = x := ⟨_, rfl⟩
      obtain ⟨lb, hlb⟩ : ∃ x, L b = x := ⟨_, rfl⟩
      rw [hla] at d0
      rw [hlb] at d1
      rw [hla, hlb] at HT
      have han : (a : Int) < (n : Int) := by omega
      have hbn : (b : Int) < (n : Int) := by omega
      clear hla hlb ha hb hq'
      have e1 : ((a : Int) == (v : Int)) = (a == v) := by
        by_cases h : a = v
        · subst h; simp
        · rw [beq_eq_false_iff_ne.2 h, beq_eq_false_iff_ne.2 (by omega)]
      have e2 : ((b : Int) == (v : Int)) = (b == v) := by
        by_cases h : b = v
        · subst h; simp
        · rw [beq_eq_false_iff_ne.2 h, beq_eq_false_iff_ne.2 (by omega)]
      obtain ⟨x1, hx1⟩ : ∃ x, (a == v) = x := ⟨_, rfl⟩
      obtain ⟨x2, hx2⟩ : ∃ x, (b == v) = x := ⟨_, rfl⟩
      rw [hx1] at e1 HT
      rw [hx2] at e2 HT
      clear hx1 hx2
      cases x1 <;> cases x2 <;> cases la <;> cases lb
      all_goals
        (simp only [Bool.and_true, Bool.and_false, Bool.or_true, Bool.or_false, Bool.true_and, Bool.false_and, Bool.true_or, Bool.false_or, if_true, if_false, Bool.false_eq_true, reduceIte] at HT
         go_wp2_with fail
         go_roundw
         case rel => exact ⟨i + 1, by simp, by omega, by rw [HT.out]; first | rfl | simp, by trivial⟩
         case measure => (simp [intOf]; omega))
    · obtain rfl : i = m := by omega
      have him : ¬ (i : Int) < (i : Int) := by omega
      go_wp2_with fail
      go_ret
      exact ⟨by rw [HDG.out]; rfl, rfl⟩

/-- a list of pairs of numbers in a slice of its own -/
def prs : List (Nat × Nat) → List Value
  | [] => []
  | x :: l => .int .i64 (x.1 : Int) :: .int .i64 (x.2 : Int) :: prs l
theorem prs_len : ∀ l, (prs l).length = l.length * 2
  | [] => rfl
  | x :: l => by show (prs l).length + 1 + 1 = (l.length + 1) * 2; rw [prs_len l]; omega
theorem prs_app : ∀ l m, prs (l ++ m) = prs l ++ prs m
  | [], m => rfl
  | x :: l, m => by show _ :: _ :: prs (l ++ m) = _ :: _ :: (prs l ++ prs m); rw [prs_app l m]
theorem prs_get0 : ∀ (l : List (Nat × Nat)) (i : Nat), i < l.length → (prs l)[i * 2]? = some (.int .i64 ((l.getD i (0, 0)).1 : Nat))
  | [], i, h => by cases h
  | x :: l, 0, _ => rfl
  | x :: l, i + 1, h => by
    rw [show (i + 1) * 2 = i * 2 + 1 + 1 by omega]
    show (prs l)[i * 2]? = _
    rw [prs_get0 l i (by simpa using h)]
    rfl
theorem prs_get1 : ∀ (l : List (Nat × Nat)) (i : Nat), i < l.length → (prs l)[i * 2 + 1]? = some (.int .i64 ((l.getD i (0, 0)).2 : Nat))
  | [], i, h => by cases h
  | x :: l, 0, _ => rfl
  | x :: l, i + 1, h => by
    rw [show (i + 1) * 2 + 1 = i * 2 + 1 + 1 + 1 by omega]
    show (prs l)[i * 2 + 1]? = _
    rw [prs_get1 l i (by simpa using h)]
    rfl
def RowP (w : World) (B : Nat) (v : Value) (l : List (Nat × Nat)) : Prop := w.ownsRow B 86 2 v l.length (prs l)
theorem info86 : (Try.prog.info? 86).map (fun i => (i.zero, i.size, i.bytes)) = some (some (.agg #[.int .i64 0, .int .i64 0]), 2, 16) := by kernel_rfl
section
variable {w w' : World} {B : Nat} {v : Value} {l : List (Nat × Nat)}
theorem RowP.nil (w : World) (B : Nat) : RowP w B (.slice none 0 0) [] := World.ownsRow_nil _ _ _ _
theorem RowP.below (h : RowP w B v l) (hb : Below w.heap.size w w') : RowP w' B v l := by
  refine ⟨h.1, h.2.imp id ?_⟩
  rintro ⟨g, cap, cur, hv, hg, hh, r⟩
  exact ⟨g, cap, cur, hv, hg, (hb.block g (Blk.lt (w := w) (t := 86) (cs := cur) hh)).trans hh, r⟩
theorem RowP.base (h : RowP w B v l) : ∀ k, v.ownBlock = some k → B ≤ k := fun k hk => (World.ownsRow.lt h k hk).1
theorem RowP.slice (h : RowP w B v l) : ∃ A c, v = .slice A l.length c := by
  rcases h.2 with ⟨h0, h3⟩ | ⟨g', cap, cur, h0, _⟩
  · exact ⟨none, 0, by rw [h0, h3]⟩
  · exact ⟨_, _, h0⟩
theorem RowP.far (h : RowP w B v l) {p : Addr} (hp : ∀ k, v.ownBlock = some k → k ≠ p.block) (u : Value) : RowP (w.setCell p u) B v l := by
  refine ⟨h.1, h.2.imp id ?_⟩
  rintro ⟨g, cap, cur, hv, hg, hh, r⟩
  exact ⟨g, cap, cur, hv, hg, (Below.heap_setCell w p u g (hp g (by rw [hv]; rfl))).trans hh, r⟩
theorem RowP.cells (h : RowP w B v l) (hl : 0 < l.length) : ∃ g c, v = .slice (some ⟨g, 0, none⟩) l.length c ∧ B ≤ g ∧ g < w.heap.size ∧ l.length ≤ c ∧ c ≤ 9223372036854775807 ∧ ∀ i, i < l.length → w.cell? ⟨g, i * 2, none⟩ = some (.int .i64 ((l.getD i (0, 0)).1 : Nat)) ∧ w.cell? ⟨g, i * 2 + 1, none⟩ = some (.int .i64 ((l.getD i (0, 0)).2 : Nat)) := by
  rcases h.2 with ⟨h0, h1⟩ | ⟨g, cap, cur, hv, hg, hh, hc, hm, hs, ht⟩
  · omega
  · refine ⟨g, cap, hv, hg, Blk.lt (w := w) (t := 86) (cs := cur) hh, hc, by simpa [maxLen] using hm, fun i hi => ?_⟩
    have e0 := prs_get0 l i hi
    have e1 := prs_get1 l i hi
    rw [← ht, List.getElem?_take] at e0 e1
    refine ⟨(Blk.cell (w := w) (t := 86) (cs := cur) hh _).trans ?_, (Blk.cell (w := w) (t := 86) (cs := cur) hh _).trans ?_⟩
    · split at e0
      · rw [← Array.getElem?_toList]; exact e0
      · cases e0
    · split at e1
      · rw [← Array.getElem?_toList]; exact e1
      · cases e1
end
theorem wpList_append_pair {ops : Array Oper} {rest : List Oper} {o : Oper} {a : Act} {w : World} {Q : Exit → Act → World → Prop} (hgd : o.guard = none) (s x : Operand) (ho : o.op = .call { callee := .builtin .append, args := #[s, x], argTypes := #[83, 83] })
    (B : Nat) (v : Value) (l : List (Nat × Nat)) (u1 u2 : Nat) (bx : Nat) (hs : a.eval s = v) (hR : RowP w B v l) (hx : a.eval x = .slice (some ⟨bx, 0, none⟩) 1 1) (hk : Blk w bx 86 #[.int .i64 (u1 : Int), .int .i64 (u2 : Int)])
    (hn : l.length ≤ 20000) (hB : B ≤ w.heap.size)
    (h : ∀ v' w', RowP w' B v' (l ++ [(u1, u2)]) → w.grownBy w' v.ownBlock → wpList Try.prog ops Q rest (a.put o.dst v') w') :
    wpList Try.prog ops Q (o :: rest) a w := by
  obtain ⟨i0, hi, hz0, hz1, hz2⟩ := info_parts info86
  refine wpList_append_own w hgd s x 83 ho B 86 i0 _ 2 16 Try.underlying83 hi hz0 hz1 hz2 rfl (by decide) v l.length (prs l) hs hR ⟨bx, 0, none⟩ 1 1 [.int .i64 (u1 : Int), .int .i64 (u2 : Int)] hx rfl ?_ ?_ (by simp only [maxLen]; omega) (by omega) hB ?_
  · intro j u hu
    rcases j with _ | _ | j
    · simp at hu
      subst hu
      exact hk.cell 0
    · simp at hu
      subst hu
      exact hk.cell 1
    · simp at hu
  · intro u hu
    simp at hu
    rcases hu with rfl | rfl <;> rfl
  · intro v' w' h2 h3 _
    refine h v' w' ?_ h3
    unfold RowP
    rw [prs_app, List.length_append]
    exact h2
/-- the best so far, as the document holds it -/
def bestV : Option (Nat × Nat) → Int × Int
  | none => (-1, 0)
  | some b => ((b.1 : Int), (b.2 : Int))
set_option maxRecDepth 100000 in
set_option maxHeartbeats 4000000 in
theorem rpeel_ok {w : World} {A : Option Addr} {c n : Nat} {E : Es} (ha : EA w A c E) (hF : Fine n E) :
    Calls Try.prog 47 #[.int .i64 (n : Int), .slice A E.length c] w fun e w' => ∃ v, e = .returned v ∧ RowP w' w.heap.size v (peel E n) ∧ Below w.heap.size w w' := by
  have hn := hF.1
  have mk1 := run_make34 n (by omega)
  go_enter Try.func47, Try.ntmps47
  have b0 := below_new1 w (.cells (falses n) 4)
  have r0 := RowB.made w n
  go_wp2_with fail
  have hsz : (w.alloc (.cells (falses n) 4)).heap.size = w.heap.size + 1 := by simp
  generalize w.alloc (.cells (falses n) 4) = W1 at *
  obtain ⟨gl, hgl⟩ : ∃ x, w.heap.size = x := ⟨_, rfl⟩
  obtain ⟨B, hB⟩ : ∃ x, W1.heap.size = x := ⟨_, rfl⟩
  have hg : w.heap.size ≤ gl ∧ gl < B ∧ w.heap.size ≤ B := by omega
  have hBz : B ≤ W1.heap.size := by omega
  rw [hgl] at r0
  rw [hgl]
  clear hgl hB mk1 hsz
  go_loopw [6] (fun v6 wr => ∃ i : Nat, v6 = .int .i64 i ∧ i ≤ n ∧ RowB wr gl n (fun u => decide (u < i)) ∧ Below w.heap.size w wr ∧ B ≤ wr.heap.size) (fun v _ => 20000 - (intOf v).toNat)
  case atStart => exact ⟨0, rfl, Nat.zero_le _, r0.congr (fun u hu => by simp), b0, hBz⟩
  case round =>
    clear r0 b0 hBz
    obtain ⟨i, rfl, hi, r, q, hz⟩ := hrel
    by_cases hlt : i < n
    · have hin : (i : Int) < (n : Int) := by omega
      have c0 := r.cell hlt
      have c1 := r.frozen i
      have r2 := r.set_ i true
      have q2 := q.setCell (p := ⟨gl, i, none⟩) hg.1 (.bool true)
      have hz2 : B ≤ (wr.setCell ⟨gl, i, none⟩ (.bool true)).heap.size := by simpa using hz
      clear r q hz
      go_wp2_with fail
      go_roundw
      case rel => exact ⟨i + 1, by simp, by omega, r2.congr (fun u hu => by
        by_cases e : u = i
        · subst e; simp
        · rw [if_neg e]; simp; omega), q2, hz2⟩
      case measure => simp [intOf]; omega
    · have ein : n = i := by omega
      subst ein
      have hin : ¬ (n : Int) < (n : Int) := by omega
      have r0 : RowB wr gl n (peelN E n 0).1 := r.congr (fun u hu => by show decide (u < n) = true; simp; exact hu)
      go_wp2_with fail
      clear r hi hlt hin
      go_loopg [7, 8, 9, 10] n (fun j v7 _ _ _ wr => ∃ (k : Nat) (p : List (Nat × Nat)) (L : Nat → Bool) (A2 : Option Addr) (c2 : Nat), v7 = .slice A2 k c2 ∧ j + k = n ∧ k = p.length ∧ Hid (peelN E n k = (L, p)) ∧ RowP wr B (.slice A2 k c2) p ∧ RowB wr gl n L ∧ Below w.heap.size w wr ∧ B ≤ wr.heap.size)
      case atStart => exact ⟨0, [], allL, none, 0, rfl, by omega, rfl, Lib.hid rfl, RowP.nil _ _, r0, q, hz⟩
      case round =>
        clear r0 q hz
        obtain ⟨k, p, L, A2, c2, rfl, hjk, hkp, HP, rp, r, q, hz⟩ := hrel
        have HKP := Lib.hid hkp
        clear hkp
        by_cases hlt : k < n
        · have hkn : (k : Int) < (n : Int) := by omega
          obtain ⟨v, d, hbest, hpick⟩ := (peeled E n k (by omega)).pick hlt
          have HST := Lib.hid (show peelN E n (k + 1) = (rem L v, p ++ [(v, d)]) from by
            show (match best E (peelN E n k).1 n with | some b => _ | none => _) = _
            rw [hbest]
            show (rem (peelN E n k).1 v, (peelN E n k).2 ++ [(v, d)]) = _
            rw [HP.out])
          have HBN := Lib.hid (show best E L n = some (v, d) from by rw [← hbest, HP.out])
          have hvn : v < n := hpick.1
          have hown := rp.base
          have bA := below_new1 wr (.cells #[.int .i64 (-1), .int .i64 0] 86)
          have kb := Blk.new wr 86 #[.int .i64 (-1), .int .i64 0]
          have hrp := rp
          have rp := rp.below bA
          have r := r.below bA r.lt
          have q := below_end q q.size bA
          have hz2 : wr.heap.size < (wr.alloc (.cells #[.int .i64 (-1), .int .i64 0] 86)).heap.size := by simp
          have hlb : ∀ k', (Value.slice A2 k c2).ownBlock = some k' → k' < wr.heap.size := fun k' hk' => (World.ownsRow.lt hrp k' hk').2
          clear hbest hpick bA
          go_upto_region 10 with fail
          generalize wr.alloc (.cells #[.int .i64 (-1), .int .i64 0] 86) = W2 at *
          obtain ⟨gB, hgB⟩ : ∃ x, wr.heap.size = x := ⟨_, rfl⟩
          have hgB2 : B ≤ gB := by omega
          rw [hgB] at kb hz2 hlb
          rw [hgB]
          clear hgB hz hrp
          go_loopw [9, 10] (fun v9 _ wr => ∃ i : Nat, v9 = .int .i64 i ∧ i ≤ n ∧ Blk wr gB 86 #[.int .i64 (bestV (best E L i)).1, .int .i64 (bestV (best E L i)).2] ∧ RowP wr B (.slice A2 k c2) p ∧ RowB wr gl n L ∧ Below w.heap.size w wr ∧ gB < wr.heap.size) (fun v _ _ => 20000 - (intOf v).toNat)
          case atStart => exact ⟨0, rfl, Nat.zero_le _, kb, rp, r, q, hz2⟩
          case round =>
            clear kb rp r q hz2
            obtain ⟨i, rfl, hi, kb, rp, r, q, hz⟩ := hrel
            by_cases hlt2 : i < n
            · have hin : (i : Int) < (n : Int) := by omega
              have c0 := r.cell hlt2
              have xd := rdegree_ok (ha.below q) hF r hlt2
              have HB2 := Lib.hid (show best E L (i + 1) = if L i = true then (match best E L i with | none => some (i, dg E L i) | some b => if dg E L i < b.2 then some (i, dg E L i) else some b) else best E L i from rfl)
              obtain ⟨x, hx⟩ : ∃ x, L i = x := ⟨_, rfl⟩
              rw [hx] at c0 HB2
              obtain ⟨dd, hdd⟩ : ∃ x, dg E L i = x := ⟨_, rfl⟩
              rw [hdd] at xd HB2
              obtain ⟨bb, hbb⟩ : ∃ x, best E L i = x := ⟨_, rfl⟩
              rw [hbb] at HB2 kb
              clear hx hdd hbb
              cases x
              · simp only [Bool.false_eq_true, if_false] at HB2
                clear xd
                go_wp2_with fail
                go_roundw
                case rel => exact ⟨i + 1, by simp, by omega, by rw [HB2.out]; exact kb, rp, r, q, hz⟩
                case measure => simp [intOf]; omega
              · simp only [if_true] at HB2
                have d0 := kb.cell 0
                have d1 := kb.cell 1
                have d2 := kb.frozen 0
                have d3 := kb.frozen 1
                simp at d0 d1
                have kb2 : Blk ((wr.setCell ⟨gB, 0, none⟩ (.int .i64 (i : Int))).setCell ⟨gB, 1, none⟩ (.int .i64 (dd : Int))) gB 86 #[.int .i64 (i : Int), .int .i64 (dd : Int)] := by
                  have := (kb.set_ 0 (.int .i64 (i : Int))).set_ 1 (.int .i64 (dd : Int))
                  simpa using this
                have r2 := (r.far (p := ⟨gB, 0, none⟩) (by show gl ≠ gB; omega) (.int .i64 (i : Int))).far (p := ⟨gB, 1, none⟩) (by show gl ≠ gB; omega) (.int .i64 (dd : Int))
                have rp2 := (rp.far (p := ⟨gB, 0, none⟩) (fun k' hk' => by have := hlb k' hk'; show k' ≠ gB; omega) (.int .i64 (i : Int))).far (p := ⟨gB, 1, none⟩) (fun k' hk' => by have := hlb k' hk'; show k' ≠ gB; omega) (.int .i64 (dd : Int))
                have q2 := (q.setCell (p := ⟨gB, 0, none⟩) (by show w.heap.size ≤ gB; omega) (.int .i64 (i : Int))).setCell (p := ⟨gB, 1, none⟩) (by show w.heap.size ≤ gB; omega) (.int .i64 (dd : Int))
                have hz2 : gB < ((wr.setCell ⟨gB, 0, none⟩ (.int .i64 (i : Int))).setCell ⟨gB, 1, none⟩ (.int .i64 (dd : Int))).heap.size := by simpa using hz
                rcases bb with _ | ⟨b1, b2⟩
                · simp only [bestV] at d0 d1 kb
                  simp only [] at HB2
                  clear kb r rp q hz
                  go_wp2_with fail
                  refine xd.mono ?_
                  rintro e w' ⟨rfl, rfl⟩
                  go_wp2_with fail
                  go_roundw
                  case rel => exact ⟨i + 1, by simp, by omega, by rw [HB2.out]; exact kb2, rp2, r2, q2, hz2⟩
                  case measure => simp [intOf]; omega
                · simp only [bestV] at d0 d1 kb
                  simp only [] at HB2
                  have hb0 : ¬ (b1 : Int) < 0 := by omega
                  by_cases hdl : dd < b2
                  · have hdl2 : (dd : Int) < (b2 : Int) := by omega
                    rw [if_pos hdl] at HB2
                    clear kb r rp q hz
                    go_wp2_with fail
                    refine xd.mono ?_
                    rintro e w' ⟨rfl, rfl⟩
                    go_wp2_with fail
                    go_roundw
                    case rel => exact ⟨i + 1, by simp, by omega, by rw [HB2.out]; exact kb2, rp2, r2, q2, hz2⟩
                    case measure => simp [intOf]; omega
                  · have hdl2 : ¬ (dd : Int) < (b2 : Int) := by omega
                    rw [if_neg hdl] at HB2
                    clear kb2 r2 rp2 q2 hz2
                    go_wp2_with fail
                    refine xd.mono ?_
                    rintro e w' ⟨rfl, rfl⟩
                    go_wp2_with fail
                    go_roundw
                    case rel => exact ⟨i + 1, by simp, by omega, by rw [HB2.out]; exact kb, rp, r, q, hz⟩
                    case measure => simp [intOf]; omega
            · have ein : n = i := by omega
              subst ein
              have hin : ¬ (n : Int) < (n : Int) := by omega
              rw [HBN.out] at kb
              simp only [bestV] at kb
              have d0 := kb.cell 0
              have d1 := kb.cell 1
              simp at d0 d1
              have c0 := r.cell hvn
              have c1 := r.frozen v
              have hvn2 : (v : Int) < (n : Int) := by omega
              have r2 := r.set_ v false
              have rp2 := rp.far (p := ⟨gl, v, none⟩) (fun k' hk' => by have := hown k' hk'; show k' ≠ gl; omega) (.bool false)
              have kb2 := kb.far (p := ⟨gl, v, none⟩) (by show gB ≠ gl; omega) (.bool false)
              have q2 := q.setCell (p := ⟨gl, v, none⟩) hg.1 (.bool false)
              have hz2 : gB < (wr.setCell ⟨gl, v, none⟩ (.bool false)).heap.size := by simpa using hz
              clear kb r rp q hz hi hlt2 hin
              go_upto_region 17 with fail
              clear d0 d1 c0 c1
              generalize wr.setCell ⟨gl, v, none⟩ (.bool false) = W3 at *
              have d0 := kb2.cell 0
              have d1 := kb2.cell 1
              simp at d0 d1
              have bA := below_new1 W3 (.cells #[.int .i64 (v : Int), .int .i64 (d : Int)] 86)
              have kA := Blk.new W3 86 #[.int .i64 (v : Int), .int .i64 (d : Int)]
              have rp3 := rp2.below bA
              have r3 := r2.below bA r2.lt
              have q3 := below_end q2 q2.size bA
              have hz3 : B ≤ (W3.alloc (.cells #[.int .i64 (v : Int), .int .i64 (d : Int)] 86)).heap.size := by simp; omega
              have hpl : p.length ≤ 20000 := by rw [← HKP.out]; omega
              have hr3l := r3.lt
              clear rp2 r2 q2 bA
              go_wp2_with (at_builtin; refine wpList_append_pair rfl _ _ rfl B (.slice A2 k c2) p v d W3.heap.size rfl rp3 rfl kA hpl hz3 ?_; intro v' w5 rp5 gr5)
              have r5 : RowB w5 gl n (rem L v) := by
                obtain ⟨cs, f1, f2⟩ := r3
                exact ⟨cs, (gr5.block gl f1.lt (fun e => by have := hown gl e.symm; omega)).trans f1, fun u hu => by rw [f2 u hu]; rfl⟩
              have q5 := q3.grown gr5 q3.size (fun k' hk' => Nat.le_trans hg.2.2 (hown k' hk'))
              have hz5 := Nat.le_trans hz3 gr5.size
              obtain ⟨A5, c5, rfl⟩ := rp5.slice
              have hlen : (p ++ [(v, d)]).length = k + 1 := by rw [List.length_append, ← HKP.out]; rfl
              rw [hlen] at rp5 ⊢
              go_roundg (n - (k + 1))
              case measure => omega
              case rel => exact ⟨k + 1, p ++ [(v, d)], rem L v, A5, c5, rfl, by omega, hlen.symm, HST, rp5, r5, q5, hz5⟩
        · have ekn : k = n := by omega
          have hkn : ¬ (k : Int) < (n : Int) := by omega
          have hfin : peel E n = p := by unfold peel; rw [← ekn]; rw [← ekn] at HP; rw [HP.out]
          have HFI := Lib.hid hfin
          clear hfin ekn
          have rp0 : RowP wr w.heap.size (.slice A2 k c2) p := by
            refine ⟨rp.1, rp.2.imp id ?_⟩
            rintro ⟨g', cap, cur, hv, hg', r'⟩
            exact ⟨g', cap, cur, hv, Nat.le_trans hg.2.2 hg', r'⟩
          clear rp r
          go_wp2_with fail
          go_ret
          exact ⟨_, rfl, by rw [HFI.out]; exact rp0, q⟩
end Go.Proofs.Ytoiafopndlnknaa
