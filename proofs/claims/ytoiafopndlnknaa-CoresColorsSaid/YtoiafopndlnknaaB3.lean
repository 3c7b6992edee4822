/-
  Rows of edges; slices.Clone of numbers and of edges; Edges, Degree, Strength.
-/
import Derived.Test.YtoiafopndlnknaaB2
import Derived.Test.YtoiafopndlnknaaShelf
import Derived.Laws.MakeOwn
set_option linter.unusedVariables false
set_option linter.unusedSimpArgs false
namespace Go.Proofs.Ytoiafopndlnknaa
open Go.RowKit Go.Shelf

abbrev k3 : List IntKind := [.i64, .i64, .i64]
def edg3 (z : Nat → Int) : List Value := [.int .i64 (z 0), .int .i64 (z 1), .int .i64 (z 2)]
def edgs (z : Nat → Nat → Int) : Nat → List Value
  | 0 => []
  | m + 1 => edgs z m ++ edg3 (z m)
theorem edgs_len (z : Nat → Nat → Int) : ∀ m, (edgs z m).length = m * 3
  | 0 => rfl
  | m + 1 => by simp [edgs, edg3, edgs_len z m]; omega
theorem edgs_ext {z y : Nat → Nat → Int} : ∀ {m : Nat}, (∀ i, i < m → ∀ j, z i j = y i j) → edgs z m = edgs y m
  | 0, _ => rfl
  | m + 1, h => by
    show edgs z m ++ edg3 (z m) = edgs y m ++ edg3 (y m)
    rw [edgs_ext (fun i hi => h i (by omega))]
    simp [edg3, h m (by omega)]
theorem edgs_one (z : Nat → Nat → Int) : ∀ m, ∀ u ∈ edgs z m, u.oneCell' = true
  | 0, u, h => by simp [edgs] at h
  | m + 1, u, h => by
    rcases List.mem_append.1 h with h | h
    · exact edgs_one z m u h
    · simp [edg3] at h
      rcases h with rfl | rfl | rfl <;> rfl
theorem edgs_get (z : Nat → Nat → Int) : ∀ {m i : Nat}, i < m → ∀ j, j < 3 → (edgs z m)[i * 3 + j]? = some (.int .i64 (z i j))
  | 0, i, h => by omega
  | m + 1, i, h => fun j hj => by
    show (edgs z m ++ edg3 (z m))[i * 3 + j]? = _
    by_cases hi : i < m
    · rw [List.getElem?_append_left (by rw [edgs_len]; omega)]
      exact edgs_get z hi j hj
    · obtain rfl : i = m := by omega
      rw [List.getElem?_append_right (by rw [edgs_len]; omega), edgs_len, Nat.add_sub_cancel_left]
      rcases j with _ | _ | _ | j
      · rfl
      · rfl
      · rfl
      · omega
theorem edgs_some {z : Nat → Nat → Int} {m i : Nat} {u : Value} (h : (edgs z m)[i]? = some u) : i / 3 < m ∧ u = .int .i64 (z (i / 3) (i % 3)) := by
  have hl : i < m * 3 := by
    rcases Nat.lt_or_ge i (m * 3) with h1 | h1
    · exact h1
    · rw [List.getElem?_eq_none (by rw [edgs_len]; exact h1)] at h; cases h
  have hi : i / 3 < m := by omega
  have := edgs_get z hi (i % 3) (by omega)
  rw [show i / 3 * 3 + i % 3 = i by omega, h] at this
  exact ⟨hi, by simpa using this⟩
theorem k3_some {j : Nat} {k : IntKind} (h : k3[j]? = some k) : j < 3 ∧ k = .i64 := by
  rcases j with _ | _ | _ | j
  · cases h; exact ⟨by omega, rfl⟩
  · cases h; exact ⟨by omega, rfl⟩
  · cases h; exact ⟨by omega, rfl⟩
  · simp at h
theorem k3_get {j : Nat} (h : j < 3) : k3[j]? = some .i64 := by
  rcases j with _ | _ | _ | j <;> first | rfl | omega
theorem edgs_cat (y z : Nat → Nat → Int) (m : Nat) : ∀ k, edgs y m ++ edgs z k = edgs (fun i => if i < m then y i else z (i - m)) (m + k)
  | 0 => by
    show edgs y m ++ [] = _
    rw [List.append_nil]
    exact edgs_ext fun i hi j => by rw [if_pos hi]
  | k + 1 => by
    have e : edgs (fun i => if i < m then y i else z (i - m)) (m + (k + 1)) = edgs (fun i => if i < m then y i else z (i - m)) (m + k) ++ edg3 (if m + k < m then y (m + k) else z (m + k - m)) := rfl
    rw [e, if_neg (by omega), Nat.add_sub_cancel_left, ← edgs_cat y z m k, List.append_assoc]
    rfl
/-- a row of m edges in a slice of its own -/
def RowE (w : World) (B : Nat) (v : Value) (m : Nat) (z : Nat → Nat → Int) : Prop := w.ownsRow B 47 3 v m (edgs z m)
theorem info47 : (Try.prog.info? 47).map (fun i => (i.zero, i.size, i.bytes)) = some (some (.agg #[.int .i64 0, .int .i64 0, .int .i64 0]), 3, 24) := by kernel_rfl
section
variable {w w' : World} {B m : Nat} {v : Value} {z : Nat → Nat → Int}
theorem RowE.below (h : RowE w B v m z) (hb : Below w.heap.size w w') : RowE w' B v m z := by
  refine ⟨h.1, h.2.imp id ?_⟩
  rintro ⟨g, cap, cur, hv, hg, hh, r⟩
  exact ⟨g, cap, cur, hv, hg, (hb.block g (Blk.lt (w := w) (t := 47) (cs := cur) hh)).trans hh, r⟩
theorem RowE.mono {B' : Nat} (h : RowE w B v m z) (hB : B' ≤ B) : RowE w B' v m z := by
  refine ⟨h.1, h.2.imp id ?_⟩
  rintro ⟨g, cap, cur, hv, hg, r⟩
  exact ⟨g, cap, cur, hv, Nat.le_trans hB hg, r⟩
theorem RowE.base (h : RowE w B v m z) : ∀ k, v.ownBlock = some k → B ≤ k := fun k hk => (World.ownsRow.lt h k hk).1
theorem RowE.slice (h : RowE w B v m z) : ∃ A c, v = .slice A m c := by
  rcases h.2 with ⟨h0, h3⟩ | ⟨g', cap, cur, h0, _⟩
  · exact ⟨none, 0, by rw [h0, h3]⟩
  · exact ⟨_, _, h0⟩
theorem RowE.arg (h : RowE w B v m z) (hz : ∀ i, i < m → ∀ j, j < 3 → Fits (z i j)) : ∃ A c, v = .slice A m c ∧ ArgS k3 w A m c z ∧ (A = none → m = 0 ∧ c = 0) ∧ (0 < m → ∃ g, A = some ⟨g, 0, none⟩ ∧ B ≤ g) := by
  rcases h.2 with ⟨h0, h1⟩ | ⟨g, cap, cur, hv, hg, hh, hc, hm, hs, ht⟩
  · subst h0 h1
    exact ⟨none, 0, rfl, ⟨Nat.le_refl _, by omega, fun e => by omega, fun i hi => by omega⟩, fun _ => ⟨rfl, rfl⟩, fun h => by omega⟩
  · refine ⟨_, cap, hv, ⟨hc, by simpa [maxLen] using hm, fun _ => ⟨g, 0, rfl, Blk.lt (w := w) (t := 47) (cs := cur) hh, fun i hi j k hj => ?_⟩, fun i hi j k hj => ?_⟩, (fun e => by cases e), fun _ => ⟨g, rfl, hg⟩⟩
    · obtain ⟨hj3, rfl⟩ := k3_some hj
      have e := edgs_get z (m := m) hi j hj3
      rw [← ht, List.getElem?_take] at e
      simp only [List.length_cons, List.length_nil, Nat.zero_add]
      refine (Blk.cell (w := w) (t := 47) (cs := cur) hh _).trans ?_
      split at e
      · rw [← Array.getElem?_toList]; exact e
      · cases e
    · obtain ⟨hj3, rfl⟩ := k3_some hj
      exact fits_wf (hz i hi j hj3)
end
theorem ArgS.edge {w : World} {A : Option Addr} {m c : Nat} {z : Nat → Nat → Int} (h : ArgS k3 w A m c z) {i : Nat} (hi : i < m) :
    ∃ g o, A = some ⟨g, o, none⟩ ∧ g < w.heap.size ∧ w.cell? ⟨g, o + i * 3, none⟩ = some (.int .i64 (z i 0)) ∧ w.cell? ⟨g, o + i * 3 + 1, none⟩ = some (.int .i64 (z i 1)) ∧ w.cell? ⟨g, o + i * 3 + 2, none⟩ = some (.int .i64 (z i 2)) ∧ Fits (z i 0) ∧ Fits (z i 1) ∧ Fits (z i 2) := by
  obtain ⟨g, o, rfl, hg, hc⟩ := h.2.2.1 (by omega)
  refine ⟨g, o, rfl, hg, hc i hi 0 _ rfl, ?_, ?_, wf_i64 (h.2.2.2 i hi 0 _ rfl), wf_i64 (h.2.2.2 i hi 1 _ rfl), wf_i64 (h.2.2.2 i hi 2 _ rfl)⟩
  · rw [Nat.add_assoc]; exact hc i hi 1 _ rfl
  · rw [Nat.add_assoc]; exact hc i hi 2 _ rfl
/-- append of many edges -/
theorem wpList_append_edges {ops : Array Oper} {rest : List Oper} {o : Oper} {a : Act} {w : World} {Q : Exit → Act → World → Prop} (hgd : o.guard = none) (s x : Operand) (ho : o.op = .call { callee := .builtin .append, args := #[s, x], argTypes := #[24, 24] })
    (B : Nat) (v : Value) (m : Nat) (y : Nat → Nat → Int) (hs : a.eval s = v) (hR : RowE w B v m y) (A : Addr) (k c : Nat) (z : Nat → Nat → Int) (hx : a.eval x = .slice (some A) k c) (hz : ArgS k3 w (some A) k c z)
    (hn : m + k ≤ 100000) (hB : B ≤ w.heap.size)
    (h : ∀ v' w', RowE w' B v' (m + k) (fun i => if i < m then y i else z (i - m)) → w.grownBy w' v.ownBlock → wpList Try.prog ops Q rest (a.put o.dst v') w') :
    wpList Try.prog ops Q (o :: rest) a w := by
  obtain ⟨i0, hi, hz0, hz1, hz2⟩ := info_parts info47
  refine wpList_append_own w hgd s x 24 ho B 47 i0 _ 3 24 Try.underlying24 hi hz0 hz1 hz2 rfl (by decide) v m (edgs y m) hs hR A k c (edgs z k) hx (edgs_len z k) ?_ (edgs_one z k) (by simp only [maxLen]; omega) (by omega) hB ?_
  · intro j u hu
    obtain ⟨hj, rfl⟩ := edgs_some hu
    obtain ⟨g, o', e, hg, hc⟩ := hz.2.2.1 (by omega)
    cases e
    rw [Addr.add_lit]
    have := hc (j / 3) hj (j % 3) .i64 (k3_get (by omega))
    simp only [List.length_cons, List.length_nil, Nat.zero_add] at this
    rw [show j / 3 * (0 + 1 + 1 + 1) + j % 3 = j by omega] at this
    exact this
  · intro v' w' h2 h3 _
    refine h v' w' ?_ h3
    unfold RowE
    rw [← edgs_cat]
    exact h2
set_option maxRecDepth 100000 in
theorem clone_ok (n c : Nat) (A : Option Addr) (z : Nat → Int) (w : World) (ha : ArgI .i64 w A n c z) (hA : A = none → n = 0 ∧ c = 0) (hn : n ≤ 100000) :
    Calls Try.prog 51 #[.slice A n c] w fun e w' => ∃ v, e = .returned v ∧ w'.ownsRow w.heap.size 3 1 v n (vals z n) ∧ Below w.heap.size w w' := by
  cases A with
  | none =>
    obtain ⟨rfl, rfl⟩ := hA rfl
    refine (Try.slices_Clone_nil 0 0 w).mono ?_
    rintro e w' ⟨rfl, rfl⟩
    exact ⟨_, rfl, World.ownsRow_nil _ _ _ _, Below.refl _ _⟩
  | some ad =>
    have hb0 := below_new1 w (.cells #[] 3)
    have ha0 := ha.below hb0
    have hown0 : (w.alloc (.cells #[] 3)).ownsRow w.heap.size 3 1 (.slice (some ⟨w.heap.size, 0, none⟩) 0 0) 0 (vals (fun _ => 0) 0) :=
      ⟨rfl, .inr ⟨w.heap.size, 0, #[], rfl, Nat.le_refl _, Blk.new w 3 #[], Nat.le_refl _, by simp [maxLen], rfl, rfl⟩⟩
    have hsz : w.heap.size ≤ (w.alloc (.cells #[] 3)).heap.size := by simp
    have q22 : ∀ w, (binOp .eql 31 (.slice (some ad) n c) (.slice none 0 0)).run Try.prog w = .ok (.bool false) w := fun w => Lib.run_eql_slice_nil w _ _ _ _ _ _ _ Try.underlying31
    go_enter Try.func51, Try.ntmps51
    go_wp2_with (at_builtin; refine wpList_append_ints rfl _ _ rfl w.heap.size (.slice (some ⟨w.heap.size, 0, none⟩) 0 0) 0 (fun _ => 0) rfl hown0 (some ad) n c z rfl ha0 (fun h => by cases h) (by omega) hsz ?_; intro v' w1 hown hgrow)
    have hb1 := hb0.grown hgrow hsz (fun k hk => by simp [Value.ownBlock] at hk; omega)
    rw [Nat.zero_add, vals_ext (y := z) (fun j hj => by unfold cat; rw [if_neg (by omega)]; rfl)] at hown
    go_ret
    exact ⟨_, rfl, hown, hb1⟩
set_option maxRecDepth 100000 in
theorem clone_e (m c : Nat) (A : Option Addr) (z : Nat → Nat → Int) (w : World) (ha : ArgS k3 w A m c z) (hm : m ≤ 20000) :
    Calls Try.prog 35 #[.slice A m c] w fun e w' => ∃ v, e = .returned v ∧ RowE w' w.heap.size v m z ∧ Below w.heap.size w w' := by
  cases A with
  | none =>
    obtain rfl : m = 0 := by
      rcases Nat.eq_zero_or_pos m with h | h
      · exact h
      · obtain ⟨g, o, e, _⟩ := ha.2.2.1 h
        cases e
    have q22 : ∀ w, (binOp .eql 24 (.slice none 0 c) (.slice none 0 0)).run Try.prog w = .ok (.bool true) w := fun w => Lib.run_eql_slice_nil w _ _ _ _ _ _ _ Try.underlying24
    go_enter Try.func35, Try.ntmps35
    go_wp2_with fail
    go_ret
    exact ⟨_, rfl, World.ownsRow_nil _ _ _ _, Below.refl _ _⟩
  | some ad =>
    have hb0 := below_new1 w (.cells #[] 47)
    have ha0 := ha.below hb0
    have hown0 : RowE (w.alloc (.cells #[] 47)) w.heap.size (.slice (some ⟨w.heap.size, 0, none⟩) 0 0) 0 z :=
      ⟨rfl, .inr ⟨w.heap.size, 0, #[], rfl, Nat.le_refl _, Blk.new w 47 #[], Nat.le_refl _, by simp [maxLen], rfl, rfl⟩⟩
    have hsz : w.heap.size ≤ (w.alloc (.cells #[] 47)).heap.size := by simp
    have q22 : ∀ w, (binOp .eql 24 (.slice (some ad) m c) (.slice none 0 0)).run Try.prog w = .ok (.bool false) w := fun w => Lib.run_eql_slice_nil w _ _ _ _ _ _ _ Try.underlying24
    go_enter Try.func35, Try.ntmps35
    go_wp2_with (at_builtin; refine wpList_append_edges rfl _ _ rfl w.heap.size (.slice (some ⟨w.heap.size, 0, none⟩) 0 0) 0 z rfl hown0 ad m c z rfl ha0 (by omega) hsz ?_; intro v' w1 hown hgrow)
    have hb1 := hb0.grown hgrow hsz (fun k hk => by simp [Value.ownBlock] at hk; omega)
    go_ret
    refine ⟨_, rfl, ?_, hb1⟩
    have e : RowE w1 w.heap.size v' (0 + m) z := by
      unfold RowE at hown ⊢
      rw [edgs_ext (y := z) (fun i hi j => by rw [if_neg (by omega)]; rfl)] at hown
      exact hown
    rwa [Nat.zero_add] at e
end Go.Proofs.Ytoiafopndlnknaa
