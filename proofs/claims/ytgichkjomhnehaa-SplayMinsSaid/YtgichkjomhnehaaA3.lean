/-
  For SplayMins: a row of steps (structs of four cells), and the append of one.
-/
import Derived.Test.YtgichkjomhnehaaL4
import Derived.Laws.MakeOwn
set_option linter.unusedVariables false
set_option linter.unusedSimpArgs false
namespace Go.Proofs.Ytgichkjomhnehaa
open Go.RowKit Go.Shelf

def act4 (z : Nat → Int) : List Value := [.int .u8 (z 0), .int .u8 (z 1), .int .u8 (z 2), .int .i64 (z 3)]
def acts (z : Nat → Nat → Int) : Nat → List Value
  | 0 => []
  | m + 1 => acts z m ++ act4 (z m)
theorem acts_len (z : Nat → Nat → Int) : ∀ m, (acts z m).length = m * 4
  | 0 => rfl
  | m + 1 => by simp [acts, act4, acts_len z m]; omega
/-- a row of m steps in a slice of its own -/
def RowA (w : World) (B : Nat) (v : Value) (m : Nat) (z : Nat → Nat → Int) : Prop := w.ownsRow B 47 4 v m (acts z m)
theorem info47 : (Try.prog.info? 47).map (fun i => (i.zero, i.size, i.bytes)) = some (some (.agg #[.int .u8 0, .int .u8 0, .int .u8 0, .int .i64 0]), 4, 16) := by kernel_rfl
theorem wpList_append_act {ops : Array Oper} {rest : List Oper} {o : Oper} {a : Act} {w : World} {Q : Exit → Act → World → Prop} (hgd : o.guard = none) (s x : Operand) (ho : o.op = .call { callee := .builtin .append, args := #[s, x], argTypes := #[22, 22] })
    (B : Nat) (v : Value) (m : Nat) (z : Nat → Nat → Int) (g : Nat) (hs : a.eval s = v) (hR : RowA w B v m z) (hx : a.eval x = .slice (some ⟨g, 0, none⟩) 1 1)
    (h0 : w.cell? ⟨g, 0, none⟩ = some (.int .u8 (z m 0))) (h1 : w.cell? ⟨g, 1, none⟩ = some (.int .u8 (z m 1))) (h2 : w.cell? ⟨g, 2, none⟩ = some (.int .u8 (z m 2))) (h3 : w.cell? ⟨g, 3, none⟩ = some (.int .i64 (z m 3)))
    (hn : m ≤ 100000) (hB : B ≤ w.heap.size)
    (h : ∀ v' w', RowA w' B v' (m + 1) z → w.grownBy w' v.ownBlock → wpList Try.prog ops Q rest (a.put o.dst v') w') :
    wpList Try.prog ops Q (o :: rest) a w := by
  obtain ⟨i0, hi, hz0, hz1, hz2⟩ := info_parts info47
  refine wpList_append_own w hgd s x 22 ho B 47 i0 _ 4 16 Try.underlying22 hi hz0 hz1 hz2 rfl (by decide) v m (acts z m) hs hR ⟨g, 0, none⟩ 1 1 (act4 (z m)) hx rfl ?_ ?_ (by simp only [maxLen]; omega) (by omega) hB ?_
  · intro j u hu
    rcases j with _ | _ | _ | _ | j
    · simp [act4] at hu; subst hu; exact h0
    · simp [act4] at hu; subst hu; exact h1
    · simp [act4] at hu; subst hu; exact h2
    · simp [act4] at hu; subst hu; exact h3
    · simp [act4] at hu
  · intro u hu
    simp [act4] at hu
    rcases hu with rfl | rfl | rfl | rfl <;> rfl
  · intro v' w' h2 h3 _
    exact h v' w' h2 h3
theorem acts_get (z : Nat → Nat → Int) : ∀ {m i : Nat}, i < m → ∀ j k, [IntKind.u8, .u8, .u8, .i64][j]? = some k → (acts z m)[i * 4 + j]? = some (.int k (z i j))
  | 0, i, h => by omega
  | m + 1, i, h => fun j k hj => by
    have hj4 : j < 4 := by
      rcases Nat.lt_or_ge j 4 with h4 | h4
      · exact h4
      · rw [List.getElem?_eq_none (by simpa using h4)] at hj; cases hj
    show (acts z m ++ act4 (z m))[i * 4 + j]? = _
    by_cases hi : i < m
    · rw [List.getElem?_append_left (by rw [acts_len]; omega)]
      exact acts_get z hi j k hj
    · obtain rfl : i = m := by omega
      rw [List.getElem?_append_right (by rw [acts_len]; omega), acts_len, Nat.add_sub_cancel_left]
      rcases j with _ | _ | _ | _ | j
      · cases hj; rfl
      · cases hj; rfl
      · cases hj; rfl
      · cases hj; rfl
      · omega
theorem RowA.arg {w : World} {B : Nat} {v : Value} {m : Nat} {z : Nat → Nat → Int} (h : RowA w B v m z) (hz : ∀ i, i < m → ∀ j k, [IntKind.u8, .u8, .u8, .i64][j]? = some k → (Lit.int k (z i j)).wf = true) : ∃ A c, v = .slice A m c ∧ ArgS [.u8, .u8, .u8, .i64] w A m c z := by
  rcases h.2 with ⟨h0, h1⟩ | ⟨g, cap, cur, hv, hg, hh, hc, hm, hs, ht⟩
  · subst h0 h1
    exact ⟨none, 0, rfl, Nat.le_refl _, by omega, fun e => by omega, hz⟩
  · refine ⟨_, cap, hv, hc, by simpa [maxLen] using hm, fun _ => ⟨g, 0, rfl, Blk.lt (w := w) (t := 47) (cs := cur) hh, fun i hi j k hj => ?_⟩, hz⟩
    have hj4 : j < 4 := by
      rcases Nat.lt_or_ge j 4 with h4 | h4
      · exact h4
      · rw [List.getElem?_eq_none (by simpa using h4)] at hj; cases hj
    have e := acts_get z (m := m) hi j k hj
    rw [← ht, List.getElem?_take] at e
    simp only [List.length_cons, List.length_nil, Nat.zero_add]
    refine (Blk.cell (w := w) (t := 47) (cs := cur) hh _).trans ?_
    split at e
    · rw [← Array.getElem?_toList]; exact e
    · cases e
theorem RowA.below {w w' : World} {B : Nat} {v : Value} {m : Nat} {z : Nat → Nat → Int} (h : RowA w B v m z) (hb : Below w.heap.size w w') : RowA w' B v m z := by
  refine ⟨h.1, h.2.imp id ?_⟩
  rintro ⟨g, cap, cur, hv, hg, hh, r⟩
  exact ⟨g, cap, cur, hv, hg, (hb.block g (Blk.lt (w := w) (t := 47) (cs := cur) hh)).trans hh, r⟩
theorem RowA.slice {w : World} {B : Nat} {v : Value} {m : Nat} {z : Nat → Nat → Int} (h : RowA w B v m z) : ∃ A c, v = .slice A m c := by
  rcases h.2 with ⟨h0, h3⟩ | ⟨g', cap, cur, h0, _⟩
  · exact ⟨none, 0, by rw [h0, h3]⟩
  · exact ⟨_, _, h0⟩
theorem make_acts (w : World) : ∃ w', (Instr.makeSlice 22 (.int .i64 0) (.int .i64 200)).run Try.prog w = .ok (.slice (some ⟨w.heap.size, 0, none⟩) 0 200) w' ∧ (∀ z, RowA w' w.heap.size (.slice (some ⟨w.heap.size, 0, none⟩) 0 200) 0 z) ∧ Below w.heap.size w w' := by
  obtain ⟨i0, hi, hz0, hz1, hz2⟩ := info_parts info47
  obtain ⟨w', h1, h2, h3⟩ := run_makeSlice_owned (P := Try.prog) (w := w) w.heap.size 22 47 i0 _ 4 Try.underlying22 hi hz0 hz1 .i64 .i64 200 (by decide) (by rw [hz2]; decide) (by simp only [maxLen]; omega) (Nat.le_refl _)
  exact ⟨w', h1, fun z => h2, (Below.refl _ w).grown h3 (Nat.le_refl _) (fun k e => by cases e)⟩
/-- the values cut to 40 bits -/
def cutZ (z : Nat → Nat → Int) : Nat → Nat → Int := fun i j => if j = 3 then (z i 3).tmod 1099511627776 else ((z i j).toNat : Int)
theorem tmod40 (V : Int) : -1099511627776 < V.tmod 1099511627776 ∧ V.tmod 1099511627776 < 1099511627776 := ⟨Int.lt_tmod_of_pos V (by decide), Int.tmod_lt_of_pos V (by decide)⟩
theorem doP_small {P : PS} {D x y : Nat} {V : Int} (h : ∀ u, -1099511627776 < P.2 u ∧ P.2 u < 1099511627776) (hV : -1099511627776 < V ∧ V < 1099511627776) : ∀ u, -1099511627776 < (doP P D x y V).2 u ∧ (doP P D x y V).2 u < 1099511627776 := fun u => by
  unfold doP
  split
  · split <;> exact h u
  · split
    · exact h u
    · split
      · exact h u
      · show -1099511627776 < setU P.2 (x % 40) V u ∧ setU P.2 (x % 40) V u < 1099511627776
        unfold setU
        split
        · exact hV
        · exact h u
theorem playP_small (z : Nat → Nat → Int) : ∀ k u, -1099511627776 < (playP (cutZ z) k).2 u ∧ (playP (cutZ z) k).2 u < 1099511627776
  | 0, u => by show -1099511627776 < (0 : Int) ∧ (0 : Int) < 1099511627776; omega
  | k + 1, u => doP_small (playP_small z k) (by show -1099511627776 < (z k 3).tmod 1099511627776 ∧ (z k 3).tmod 1099511627776 < 1099511627776; exact tmod40 _) u
theorem cutZ_wf {ks : List IntKind} (hks : ks = [.u8, .u8, .u8, .i64]) {w : World} {A : Option Addr} {n c : Nat} {z : Nat → Nat → Int} (ha : ArgS ks w A n c z) : ∀ i, i < n → ∀ j k, ks[j]? = some k → (Lit.int k (cutZ z i j)).wf = true := fun i hi j k hj => by
  have h := ha.2.2.2 i hi j k hj
  subst hks
  rcases j with _ | _ | _ | _ | j
  · cases hj
    have := wf_u8 h
    show (Lit.int .u8 (((z i 0).toNat : Nat) : Int)).wf = true
    rw [Int.toNat_of_nonneg this.1]; exact h
  · cases hj
    have := wf_u8 h
    show (Lit.int .u8 (((z i 1).toNat : Nat) : Int)).wf = true
    rw [Int.toNat_of_nonneg this.1]; exact h
  · cases hj
    have := wf_u8 h
    show (Lit.int .u8 (((z i 2).toNat : Nat) : Int)).wf = true
    rw [Int.toNat_of_nonneg this.1]; exact h
  · cases hj
    have := tmod40 (z i 3)
    show (Lit.int .i64 ((z i 3).tmod 1099511627776)).wf = true
    exact fits_wf ⟨by omega, by omega⟩
  · simp at hj
theorem tot_small {U : Nat → Int} (h : ∀ u, -1099511627776 < U u ∧ U u < 1099511627776) : ∀ l : List Nat, -(1099511627776 * (l.length : Int)) ≤ tot U l ∧ tot U l ≤ 1099511627776 * (l.length : Int)
  | [] => by simp [tot]
  | a :: l => by
    have h1 := tot_small h l
    have h2 := h a
    rw [tot_cons]
    simp only [List.length_cons]
    omega
theorem tot_take {U : Nat → Int} {l : List Nat} {k y : Nat} (h : l[k]? = some y) : tot U (l.take (k + 1)) = tot U (l.take k) + U y := by
  obtain ⟨hk, e⟩ := List.getElem?_eq_some_iff.1 h
  rw [List.take_succ_eq_append_getElem hk, tot_append, e]
  simp [tot]
end Go.Proofs.Ytgichkjomhnehaa
