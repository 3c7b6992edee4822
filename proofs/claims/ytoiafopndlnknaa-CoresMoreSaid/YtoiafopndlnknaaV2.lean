/-
  append of an edge at a step of a region that draws; what an append leaves.
-/
import Derived.Test.YtoiafopndlnknaaV1
import Derived.Test.YtoiafopndlnknaaQTail
set_option linter.unusedVariables false
set_option linter.unusedSimpArgs false
namespace Go.Proofs.Ytoiafopndlnknaa
open Go.RowKit Go.Shelf

theorem Gr.grown {w w' : World} {K : GB} {n : Nat} {E : Es} {row : Option Nat} (h : Gr w K n E) (gr : w.grownBy w' row) (hne : ∀ k ∈ K.l, some k ≠ row) : Gr w' K n E := h.heap (fun k hk => gr.block k (h.lt k hk) (hne k hk)) gr.size
theorem EL.lt {w : World} {B : Nat} {v : Value} {E : Es} (h : EL w B v E) : ∀ k, v.ownBlock = some k → k < w.heap.size := by
  obtain ⟨y, h1, _⟩ := h
  exact fun k hk => (World.ownsRow.lt h1 k hk).2
theorem step_append_edge {ops : Array Oper} {o : Oper} {a : Act} {w : World} {K : Act → World → Prop} {Q : Exit → Act → World → Prop} {X : Prop} (hgd : o.guard = none) (s x : Operand) (ho : o.op = .call { callee := .builtin .append, args := #[s, x], argTypes := #[24, 24] })
    (B : Nat) (v : Value) (E : Es) (u1 u2 : Nat) (W : Int) (bx : Nat) (hs : a.eval s = v) (hR : EL w B v E) (hx : a.eval x = .slice (some ⟨bx, 0, none⟩) 1 1) (hk : Blk w bx 47 #[.int .i64 (u1 : Int), .int .i64 (u2 : Int), .int .i64 W]) (hW : Fits W)
    (hn : E.length ≤ 20000) (hB : B ≤ w.heap.size)
    (h : ∀ v' w', EL w' B v' (E ++ [(u1, u2)]) → w.grownBy w' v.ownBlock → K (a.put o.dst v') w') :
    if Region.wanted o (yielded ops a.tmps) = true then Oper.wp Try.prog o a w K Q else X := by
  have hw : Region.wanted o (yielded ops a.tmps) = true := by simp [Region.wanted, hgd]
  rw [if_pos hw]
  obtain ⟨y, hr, hy⟩ := hR
  obtain ⟨z, hz⟩ : ∃ z : Nat → Nat → Int, z = fun _ j => if j = 0 then (u1 : Int) else if j = 1 then (u2 : Int) else W := ⟨_, rfl⟩
  obtain ⟨i0, hi, hz0, hz1, hz2⟩ := info_parts info47
  obtain ⟨v', w', hrun, h2, h3, h4, h5⟩ := run_append_own_at (P := Try.prog) w B 24 o.type 47 i0 _ 3 24 Try.underlying24 hi hz0 hz1 hz2 rfl (by decide) v E.length (edgs y E.length) hr ⟨bx, 0, none⟩ 1 1 (edgs z 1) (edgs_len z 1) (fun j u hu => by
    obtain ⟨hj, rfl⟩ := edgs_some hu
    rw [Addr.add_lit]
    have hj3 : j < 3 := by omega
    have ej : j / 3 = 0 := by omega
    have em : j % 3 = j := by omega
    rw [ej, em, hz]
    refine (hk.cell _).trans ?_
    rcases j with _ | _ | _ | j
    · rfl
    · rfl
    · rfl
    · omega) (edgs_one z 1) (by simp only [maxLen]; omega) (by omega) hB
  unfold Oper.wp execOp
  simp only [ho, resolve, invoke, builtin, Sem.run_bind, Sem.run_pure, Result.andThen_ok, List.map_toArray, List.map_cons, List.map_nil, hs, hx, hrun]
  refine h v' w' ⟨fun i => if i < E.length then y i else z (i - E.length), ?_, fun i hi => ?_⟩ h3
  · rw [List.length_append, List.length_singleton]
    unfold RowE
    rw [← edgs_cat]
    exact h2
  · rw [List.length_append, List.length_singleton] at hi
    by_cases hlt : i < E.length
    · rw [edge_app_l E _ hlt]
      simp only [if_pos hlt]
      exact hy i hlt
    · obtain rfl : i = E.length := by omega
      have := edge_app_r E [(u1, u2)] 0
      rw [Nat.add_zero] at this
      rw [this]
      simp only [if_neg hlt, hz]
      exact ⟨rfl, rfl, hW⟩
end Go.Proofs.Ytoiafopndlnknaa
