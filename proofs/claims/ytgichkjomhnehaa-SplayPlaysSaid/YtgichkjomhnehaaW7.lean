/-
  Collect over the way up.
-/
import Derived.Test.YtgichkjomhnehaaW6
set_option linter.unusedVariables false
set_option linter.unusedSimpArgs false
namespace Go.Proofs.Ytgichkjomhnehaa
open Go.RowKit Go.Shelf

attribute [local go_sem] Oper.semAt_some

theorem grownBy_set (w : World) (p : Addr) (u : Value) : w.grownBy (w.setCell p u) (some p.block) :=
  ⟨rfl, rfl, rfl, by simp, fun k hk hne => Below.heap_setCell w p u k (fun e => hne (by rw [e]))⟩
theorem RowL.cells {w : World} {B : Nat} {v : Value} {l : List Nat} (h : RowL w B v l) : ∀ k, v.ownBlock = some k → ∃ cs, w.heap[k]? = some (.cells cs 3 (0, 0)) := by
  intro k hk
  rcases h.2 with ⟨h0, _⟩ | ⟨g, cap, cur, hv, hg, hh, _⟩
  · rw [h0] at hk; cases hk
  · rw [hv] at hk; cases hk; exact ⟨cur, hh⟩
theorem RowL.own {w w' : World} {B : Nat} {v : Value} {l : List Nat} {row : Option Nat} (h : RowL w B v l) (hg : w.grownBy w' row) (hr : ∀ r, row = some r → ∃ o : Obj, w.heap[r]? = some o ∧ o.isCells = false) : RowL w' B v l := by
  refine World.ownsRow.kept h hg ?_
  cases hb : v.ownBlock with
  | none => exact Or.inl rfl
  | some g =>
    right
    intro e
    obtain ⟨o, ho, hc⟩ := hr g e.symm
    obtain ⟨cs, h2⟩ := h.cells g hb
    rw [ho] at h2
    cases h2
    cases hc
/-- a box with a list of numbers -/
def BoxL (W : World) (B0 : Nat) (l : List Nat) : Prop := ∃ A c, Blk W B0 25 #[.slice A l.length c] ∧ RowL W (B0 + 1) (.slice A l.length c) l
theorem RowL.slice {w : World} {B : Nat} {v : Value} {l : List Nat} (h : RowL w B v l) : ∃ A c, v = .slice A l.length c := by
  rcases h.2 with ⟨h0, h3⟩ | ⟨g', cap, cur, h0, _⟩
  · exact ⟨none, 0, by rw [h0, h3]⟩
  · exact ⟨_, _, h0⟩
theorem BoxL.own {W W' : World} {B0 : Nat} {l : List Nat} {row : Option Nat} (h : BoxL W B0 l) (hg : W.grownBy W' row) (hr : ∀ r, row = some r → ∃ o : Obj, W.heap[r]? = some o ∧ o.isCells = false) : BoxL W' B0 l := by
  obtain ⟨A, c, h1, h2⟩ := h
  exact ⟨A, c, h1.own hg hr, h2.own hg hr⟩
set_option maxRecDepth 100000 in
set_option maxHeartbeats 1000000 in
theorem appendseq_ok (Bi Bs b s n : Nat) (st : Nat → Nd) (i : Nat) (L : List Nat) (w : World) (hn : n ≤ 65536) (hU : UpL st i L) (hL : ∀ y ∈ L, y ≤ n) (hLl : L.length ≤ 65536) (hBi : Blk w Bi 3 #[.int .i64 (i : Int)]) (hBs : Blk w Bs 23 #[.pointer (some ⟨b, 0, none⟩)]) (hS : SP w b s n st) :
    Calls Try.prog 68 #[.slice none 0 0, .func (.func 69) #[] #[.pointer (some ⟨Bi, 0, none⟩), .pointer (some ⟨Bs, 0, none⟩)]] w fun e w' => ∃ v, e = .returned v ∧ RowL w' w.heap.size v L ∧ Below w.heap.size w w' := by
  have hb1 := below_new1 w (.cells #[.slice none 0 0] 25)
  have hb0 : Blk (w.alloc (.cells #[.slice none 0 0] 25)) w.heap.size 25 #[.slice none 0 0] := Blk.new _ _ _
  have hlt := hS.lt
  have hBs1 := hBs.lt
  refine calls_of_marks Try.func68 rfl ?_
  simp only [Try.ntmps68, List.size_toArray, List.length_cons, List.length_nil, Nat.reduceAdd, Nat.reduceSub, Array.replicate_succ, Array.replicate_zero, List.push_toArray, List.append_toArray, List.nil_append, List.cons_append]
  go_wp2
  refine wpIn_wide.1 (wpIn_rangeFunc_ownF (F := Fence.wide) (n := 9) rfl (by decide) (gf := 69) (lb := #[.pointer (some ⟨Bi, 0, none⟩), .pointer (some ⟨Bs, 0, none⟩)]) rfl trivial (enters_of Try.func69 (by kernel_rfl) rfl)
    (above_stops Bi Bs b s n st i L hn hU hL _ (hBi.below hb1 hBi.lt) (hBs.below hb1 hBs.lt) (hS.below hb1)) (fun h k => h.trans k) (fun W k o o' hk _ _ _ => KpB.putObj o' (fun j hj => by simp at hj hk; rcases hj with rfl | rfl | rfl <;> omega)) (Below.refl _ _) (fun _ => rfl)
    (fun pre W => BoxL W w.heap.size pre ∧ Below w.heap.size w W)
    (fun _ _ _ => False)
    (OwnFrom.and (Own.from (fun s A B row hs hg hr => hs.own hg hr) _) (ownFrom_below (Nat.le_refl _) (by simp)))
    (fun _ _ _ _ _ hs _ _ => hs)
    ⟨⟨none, 0, hb0, RowL.nil _ _⟩, hb1⟩
    (fun x => { tmps := #[.slice none 0 0, .func (.func 69) #[] #[.pointer (some ⟨Bi, 0, none⟩), .pointer (some ⟨Bs, 0, none⟩)], .pointer (some ⟨w.heap.size, 0, none⟩), undef, .slice none 0 0, .int .i64 (x : Nat), .func (.func 69) #[] #[.pointer (some ⟨Bi, 0, none⟩), .pointer (some ⟨Bs, 0, none⟩)], .int .i64 (x : Nat), undef, undef, undef, undef, undef], defers := [] }) ?assign ?body ?done ?stop)
  case assign =>
    intro l x W K hK
    gi_wp2
    exact hK
  case body =>
    rintro l pre x W ⟨⟨A, c, k0, hR⟩, hB⟩ hpl
    have hq := hB.size
    have hbl := k0.lt
    have c0 := k0.cell 0
    simp at c0
    have kA := k0.alloc (.cells #[.int .i64 (x : Int)] 3)
    have hRA := hR.below (below_new1 W (.cells #[.int .i64 (x : Int)] 3))
    have HKC := Lib.hid (show (W.alloc (.cells #[.int .i64 (x : Int)] 3)).cell? ⟨W.heap.size, 0, none⟩ = some (.int .i64 (x : Int)) from (Blk.new W 3 #[.int .i64 (x : Int)]).cell 0)
    have hzA : w.heap.size + 1 ≤ (W.alloc (.cells #[.int .i64 (x : Int)] 3)).heap.size := by simp; omega
    have fin : ∀ (v' : Value) (w3 : World), RowL w3 (w.heap.size + 1) v' (pre ++ [x]) → (W.alloc (.cells #[.int .i64 (x : Int)] 3)).grownBy w3 (Value.slice A pre.length c).ownBlock →
        (∃ A' k' c', v' = .slice A' k' c') ∧ w3.cell? ⟨w.heap.size, 0, none⟩ = some (.slice A pre.length c) ∧ w3.frozen? ⟨w.heap.size, 0, none⟩ = false ∧ KeepsOthers W (w3.setCell ⟨w.heap.size, 0, none⟩ v') ∧ KpB [Bs, b, s] W (w3.setCell ⟨w.heap.size, 0, none⟩ v') ∧ BoxL (w3.setCell ⟨w.heap.size, 0, none⟩ v') w.heap.size (pre ++ [x]) ∧ Below w.heap.size w (w3.setCell ⟨w.heap.size, 0, none⟩ v') := fun v' w3 h1 h2 => by
      have hbase := hRA.base
      have k3 : Blk w3 w.heap.size 25 #[.slice A pre.length c] := (h2.block w.heap.size kA.lt (fun e => by have := hbase _ e.symm; omega)).trans kA
      have qW : Below w.heap.size W (w3.setCell ⟨w.heap.size, 0, none⟩ v') := ((((Below.refl w.heap.size W).alloc (by omega) (.cells #[.int .i64 (x : Int)] 3)).grown h2 (by omega) (fun k hk => by have := hbase _ hk; omega)).setCell (p := ⟨w.heap.size, 0, none⟩) (Nat.le_refl _) v')
      obtain ⟨A9, c9, e9⟩ := h1.slice
      refine ⟨⟨A9, _, c9, e9⟩, by simpa using k3.cell 0, k3.frozen 0, ((KeepsOthers.alloc W _).trans (KeepsOthers.of_grownBy h2 fun j o hj ho => ?_)).trans (KeepsOthers.setCell _ _ _), fun k hk => qW.block k (by simp at hk; rcases hk with rfl | rfl | rfl <;> omega), ?_, hB.trans qW⟩
      · obtain ⟨cs, hc⟩ := hRA.cells j hj
        rw [hc] at ho
        cases ho
        rfl
      · obtain ⟨A', c', rfl⟩ := h1.slice
        refine ⟨A', c', by have := k3.set_ 0 (.slice A' (pre ++ [x]).length c'); simpa using this, ?_⟩
        have hb3 := h1.base
        refine World.ownsRow.kept h1 (grownBy_set w3 ⟨w.heap.size, 0, none⟩ _) ?_
        cases ho : (Value.slice A' (pre ++ [x]).length c').ownBlock with
        | none => exact Or.inl rfl
        | some g => right; intro e; have e : g = w.heap.size := Option.some.inj e; have := hb3 _ ho; omega
    have FIN := Lib.hid fin
    clear fin kA hR
    gi_wp2_with (gi_at_builtin; refine wpListIn_append_num rfl _ _ rfl (w.heap.size + 1) (.slice A pre.length c) pre x W.heap.size rfl hRA rfl HKC.out (by omega) hzA ?_; intro v' w3 h1 h2; obtain ⟨⟨A', k', c', rfl⟩, d1, d2, d3, d4, d5, d6⟩ := FIN.out v' w3 h1 h2; clear h1 h2)
    exact ⟨d3, d4, d5, d6⟩
  case done =>
    rintro D ys W hD rfl ⟨⟨A, c, k0, hR⟩, hB⟩ hK
    have c0 := k0.cell 0
    simp at c0
    go_wp2
    refine postM_mark rfl hK (results_tmp rfl _ _ _) ?_
    have hDl := (Array.getElem?_eq_some_iff.1 hK).1
    refine ⟨_, rfl, (hR.mono (B' := w.heap.size) (by omega)).own (grownBy_putObj' W D _) (fun r e => by cases e; exact ⟨_, hK, rfl⟩), below_putObj hB (by simp at hD; omega) hDl⟩
  case stop =>
    rintro D c pre W _ _ h _
    exact h.elim
theorem collect_ok (Bi Bs b s n : Nat) (st : Nat → Nd) (i : Nat) (L : List Nat) (w : World) (hn : n ≤ 65536) (hU : UpL st i L) (hL : ∀ y ∈ L, y ≤ n) (hLl : L.length ≤ 65536) (hBi : Blk w Bi 3 #[.int .i64 (i : Int)]) (hBs : Blk w Bs 23 #[.pointer (some ⟨b, 0, none⟩)]) (hS : SP w b s n st) :
    Calls Try.prog 63 #[.func (.func 69) #[] #[.pointer (some ⟨Bi, 0, none⟩), .pointer (some ⟨Bs, 0, none⟩)]] w fun e w' => ∃ v, e = .returned v ∧ RowL w' w.heap.size v L ∧ Below w.heap.size w w' := by
  have x := appendseq_ok Bi Bs b s n st i L w hn hU hL hLl hBi hBs hS
  go_enter Try.func63, Try.ntmps63
  go_wp2_with fail
  refine x.mono ?_
  rintro e w1 ⟨v, rfl, h1, h2⟩
  go_wp2_with fail
  go_ret
  exact ⟨_, rfl, h1, h2⟩
end Go.Proofs.Ytgichkjomhnehaa
