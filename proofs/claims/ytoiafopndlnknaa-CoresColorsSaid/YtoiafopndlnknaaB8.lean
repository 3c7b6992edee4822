/-
  The buckets: lose.
-/
import Derived.Test.YtoiafopndlnknaaB7
import Derived.Maps.AppendAt
set_option linter.unusedVariables false
set_option linter.unusedSimpArgs false
namespace Go.Proofs.Ytoiafopndlnknaa
open Go.RowKit Go.Shelf

theorem balloc {a w : World} (h : Below a.heap.size a w) (o : Obj) : Below a.heap.size a (w.alloc o) := h.alloc h.size o
theorem bdrew {a w : World} (h : Below a.heap.size a w) : Below a.heap.size a w.drew := h.drew
/-- append of one number to a row, at a step of a region that draws, and where the new one lies -/
theorem step_append_num_at {ops : Array Oper} {o : Oper} {a : Act} {w : World} {K : Act → World → Prop} {Q : Exit → Act → World → Prop} {E : Prop} (hgd : o.guard = none) (s x : Operand) (ho : o.op = .call { callee := .builtin .append, args := #[s, x], argTypes := #[31, 31] })
    (B : Nat) (v : Value) (l : List Nat) (y g : Nat) (hs : a.eval s = v) (hR : RowL w B v l) (hx : a.eval x = .slice (some ⟨g, 0, none⟩) 1 1) (hc : w.cell? ⟨g, 0, none⟩ = some (.int .i64 (y : Int)))
    (hn : l.length ≤ 100000) (hB : B ≤ w.heap.size)
    (h : ∀ v' w', RowL w' B v' (l ++ [y]) → w.grownBy w' v.ownBlock → (v'.ownBlock = v.ownBlock ∨ v'.ownBlock = some w.heap.size) → K (a.put o.dst v') w') :
    if Region.wanted o (yielded ops a.tmps) = true then Oper.wp Try.prog o a w K Q else E := by
  have hw : Region.wanted o (yielded ops a.tmps) = true := by simp [Region.wanted, hgd]
  rw [if_pos hw]
  obtain ⟨i0, hi, hz0, hz1, hz2⟩ := info_parts info3
  obtain ⟨v', w', hr, h2, h3, h4, h5⟩ := run_append_own_at (P := Try.prog) w B 31 o.type 3 i0 (.int .i64 0) 1 8 Try.underlying31 hi hz0 hz1 hz2 rfl (by decide) v l.length (nums l) hR ⟨g, 0, none⟩ 1 1 [.int .i64 (y : Int)] rfl (fun j u hu => by
    rcases j with _ | j
    · simp at hu
      subst hu
      exact hc
    · simp at hu) (fun u hu => by simp at hu; subst hu; rfl) (by simp only [maxLen]; omega) (by omega) hB
  unfold Oper.wp execOp
  simp only [ho, resolve, invoke, builtin, Sem.run_bind, Sem.run_pure, Result.andThen_ok, List.map_toArray, List.map_cons, List.map_nil, hs, hx, hr]
  refine h v' w' ?_ h3 h5
  have e : nums (l ++ [y]) = nums l ++ [.int .i64 (y : Int)] := by simp [nums]
  unfold RowL
  rw [e, List.length_append]
  exact h2
section
variable {w w' : World} {b gd gm n B low : Nat} {dv : Nat → Int} {mem : Nat → List Nat} {X : Nat → Prop}
theorem Bk.cells (h : Bk w b gd gm n B dv mem low X) : w.cell? ⟨b, 0, none⟩ = some (.slice (some ⟨gd, 0, none⟩) n n) ∧ w.cell? ⟨b, 1, none⟩ = some (.slice (some ⟨gm, 0, none⟩) B B) ∧ w.cell? ⟨b, 2, none⟩ = some (.int .i64 (low : Nat)) := ⟨h.box.cell 0, h.box.cell 1, h.box.cell 2⟩
/-- a degree is set -/
theorem Bk.setD (h : Bk w b gd gm n B dv mem low X) (u : Nat) (x : Int) : Bk (w.setCell ⟨gd, u, none⟩ (.int .i64 x)) b gd gm n B (upd dv u x) mem low X ∧ Tn X w (w.setCell ⟨gd, u, none⟩ (.int .i64 x)) := by
  have hne := h.ne
  refine ⟨⟨h.box.far (p := ⟨gd, u, none⟩) hne.1 _, h.deg.set_ u x, ?_, h.nx, fun k hk => by simpa using h.xs k hk, h.nb⟩, (Turns.refl _ w).setCell (.inr h.nx.2.1) _, KeepsOthers.setCell _ _ _⟩
  refine h.ms.heap (fun k cs t hk hb => hb.far (p := ⟨gd, u, none⟩) (fun e => hk (.inr e)) _) ?_
  rintro (g | g)
  · exact h.nx.2.2 g
  · exact hne.2.2 g.symm
theorem Bk.setLow (h : Bk w b gd gm n B dv mem low X) (x : Nat) (hx : x ≤ 40000) : Bk (w.setCell ⟨b, 2, none⟩ (.int .i64 (x : Nat))) b gd gm n B dv mem x X ∧ Tn X w (w.setCell ⟨b, 2, none⟩ (.int .i64 (x : Nat))) := by
  have hne := h.ne
  refine ⟨⟨?_, h.deg.far (p := ⟨b, 2, none⟩) (fun e => hne.1 e.symm) _, ?_, h.nx, fun k hk => by simpa using h.xs k hk, h.nb.1, h.nb.2.1, hx⟩, (Turns.refl _ w).setCell (.inr h.nx.1) _, KeepsOthers.setCell _ _ _⟩
  · have := h.box.set_ 2 (.int .i64 (x : Nat))
    simpa using this
  · obtain ⟨vs, ⟨cs, k1, k2⟩, h2, h3⟩ := h.ms
    refine ⟨vs, ⟨cs, k1.far (p := ⟨b, 2, none⟩) (fun e => hne.2.1 e.symm) _, k2⟩, fun d hd => ⟨?_, (h2 d hd).2⟩, h3⟩
    refine World.ownsRow.kept (h2 d hd).1 (grownBy_set w ⟨b, 2, none⟩ _) (.inr fun e => ?_)
    obtain ⟨cs2, hc⟩ := RowL.cells_ (h2 d hd).1 b e
    exact h.box.ne_ (t' := 3) (cs' := cs2) hc (by decide) rfl
/-- a list grows -/
theorem Bk.grow (h : Bk w b gd gm n B dv mem low X) {d : Nat} (hd : d < B) {v v' : Value} (hv : w.cell? ⟨gm, d, none⟩ = some v) {l : List Nat} (hr : RowL w' 0 v' l) (hg : w.grownBy w' v.ownBlock) (hat : v'.ownBlock = v.ownBlock ∨ v'.ownBlock = some w.heap.size) :
    w'.cell? ⟨b, 1, none⟩ = some (.slice (some ⟨gm, 0, none⟩) B B) ∧ w'.cell? ⟨gm, d, none⟩ = some v ∧ w'.frozen? ⟨gm, d, none⟩ = false ∧ Bk (w'.setCell ⟨gm, d, none⟩ v') b gd gm n B dv (upd mem d l) low X ∧ Tn X w (w'.setCell ⟨gm, d, none⟩ v') := by
  have hne := h.ne
  have hlt := h.lt
  obtain ⟨v0, e0, r0, o0, _⟩ := h.ms.lists hd
  rw [hv] at e0
  have e0 := Option.some.inj e0
  subst e0
  have hvb : v.ownBlock ≠ some b := fun e => by
    obtain ⟨cs2, hc⟩ := RowL.cells_ r0 b e
    exact h.box.ne_ (t' := 3) (cs' := cs2) hc (by decide) rfl
  have hvd : v.ownBlock ≠ some gd := fun e => (o0 gd e).1 (.inr rfl)
  have hvm : v.ownBlock ≠ some gm := fun e => (o0 gm e).2.2 rfl
  have kb : Blk w' b 109 _ := (hg.block b hlt.1 (fun e => hvb e.symm)).trans h.box
  obtain ⟨cd, k1, k2⟩ := h.deg
  have kd : Blk w' gd 3 cd := (hg.block gd hlt.2.1 (fun e => hvd e.symm)).trans k1
  obtain ⟨vs, ⟨cs, m1, m2⟩, _⟩ := h.ms
  have km : Blk w' gm 31 cs := (hg.block gm hlt.2.2 (fun e => hvm e.symm)).trans m1
  have hcs : cs[d]? = some v := by rw [← m1.cell d]; exact hv
  have hs := hg.size
  refine ⟨kb.cell 1, (km.cell d).trans hcs, km.frozen d, ⟨kb.far (p := ⟨gm, d, none⟩) hne.2.1 _, ⟨cd, kd.far (p := ⟨gm, d, none⟩) hne.2.2 _, k2⟩, ?_, h.nx, fun k hk => ?_, h.nb⟩, ?_, ?_⟩
  · exact h.ms.push hd hv hr hg hat (fun k hk => hk.elim (fun g => h.xs k g) (fun g => by omega))
  · have := h.xs k hk
    simp
    omega
  · refine ⟨hg.os, hg.tape, hg.output, by simpa using hs, fun k hk hn => ?_⟩
    have hX : X k := Classical.byContradiction fun g => hn g
    refine (Below.heap_setCell w' ⟨gm, d, none⟩ v' k (fun e => h.nx.2.2 (by have e : k = gm := e; rw [← e]; exact hX))).trans (hg.block k hk (fun e => (o0 k e.symm).1 (.inl hX)))
  · refine (KeepsOthers.of_grownBy hg fun j o hj ho => ?_).trans (KeepsOthers.setCell _ _ _)
    obtain ⟨cs2, hc⟩ := RowL.cells_ r0 j hj
    rw [hc] at ho
    cases ho
    rfl
set_option maxRecDepth 100000 in
theorem lose_no (h : Bk w b gd gm n B dv mem low X) {u : Nat} (hu : u < n) (hd : dv u ≤ 0) :
    Calls Try.prog 56 #[.pointer (some ⟨b, 0, none⟩), .int .i64 (u : Int)] w fun e w' => e = .returned (.tuple #[]) ∧ w = w' := by
  obtain ⟨c0, c1, c2⟩ := h.cells
  have c3 := h.deg.cell hu
  have hun : (u : Int) < (n : Int) := by omega
  have hn := h.nb.1
  obtain ⟨x, hx⟩ : ∃ x, dv u = x := ⟨_, rfl⟩
  rw [hx] at c3 hd
  clear h hx
  go_enter Try.func56, Try.ntmps56
  go_wp2_with fail
  refine bodyPost_ret (results_none rfl _ _ _) rfl ?_
  exact ⟨rfl, rfl⟩
set_option maxRecDepth 100000 in
set_option maxHeartbeats 1000000 in
theorem lose_ok (h : Bk w b gd gm n B dv mem low X) {u d : Nat} (hu : u < n) (hd : dv u = (d + 1 : Nat)) (hdB : d < B) (hl : (mem d).length ≤ 100000) :
    Calls Try.prog 56 #[.pointer (some ⟨b, 0, none⟩), .int .i64 (u : Int)] w fun e w' => e = .returned (.tuple #[]) ∧ Bk w' b gd gm n B (upd dv u d) (upd mem d (mem d ++ [u])) (min low d) X ∧ Tn X w w' := by
  obtain ⟨c0, c1, c2⟩ := h.cells
  have c3 := h.deg.cell hu
  have c4 := h.deg.frozen u
  have hun : (u : Int) < (n : Int) := by omega
  obtain ⟨hn, hB, hlow⟩ := h.nb
  obtain ⟨x, hx⟩ : ∃ x, dv u = x := ⟨_, rfl⟩
  rw [hx] at c3 hd
  have hx1 : x - 1 = (d : Int) := by omega
  have hx0 : ¬ x ≤ 0 := by omega
  obtain ⟨h1, t1⟩ := h.setD u (d : Int)
  have c5 := h1.deg.cell hu
  have e5 : upd dv u (d : Int) u = (d : Int) := by simp [upd]
  rw [e5] at c5
  have hxb : x ≤ 50000 := by omega
  have hdB2 : (d : Int) < (B : Int) := by omega
  clear h hd hx e5
  go_enter Try.func56, Try.ntmps56
  go_upto_region 2 with fail
  generalize w.setCell ⟨gd, u, none⟩ (.int .i64 (d : Int)) = W1 at *
  clear c0 c1 c2 c3 c4
  obtain ⟨c0, c1, c2⟩ := h1.cells
  obtain ⟨v, e1, r1, o1, _⟩ := h1.ms.lists hdB
  have HV := Lib.hid (fun (W : World) (q : Below W1.heap.size W1 W) => show RowL W 0 v (mem d) from r1.below q)
  have HKC := Lib.hid (fun (W : World) => show (W.alloc (.cells #[.int .i64 (u : Int)] 3)).cell? ⟨W.heap.size, 0, none⟩ = some (.int .i64 (u : Int)) from (Blk.new W 3 #[.int .i64 (u : Int)]).cell 0)
  have KEEP := Lib.hid (fun (W : World) (q : Below W1.heap.size W1 W) => show W.cell? ⟨b, 1, none⟩ = some (.slice (some ⟨gm, 0, none⟩) B B) ∧ W.cell? ⟨gm, d, none⟩ = some v from ⟨(h1.below q).cells.2.1, (q.cell (p := ⟨gm, d, none⟩) h1.lt.2.2).trans e1⟩)
  have FIN := Lib.hid (show ∀ (Wp w2 : World) (v' : Value), Below W1.heap.size W1 Wp → RowL w2 0 v' (mem d ++ [u]) → Wp.grownBy w2 v.ownBlock → (v'.ownBlock = v.ownBlock ∨ v'.ownBlock = some Wp.heap.size) → ∃ A' k' c', v' = .slice A' k' c' ∧ w2.cell? ⟨b, 1, none⟩ = some (.slice (some ⟨gm, 0, none⟩) B B) ∧ w2.cell? ⟨gm, d, none⟩ = some v ∧ w2.frozen? ⟨gm, d, none⟩ = false ∧ Bk (w2.setCell ⟨gm, d, none⟩ (.slice A' k' c')) b gd gm n B (upd dv u d) (upd mem d (mem d ++ [u])) low X ∧ Tn X w (w2.setCell ⟨gm, d, none⟩ (.slice A' k' c')) from fun Wp w2 v' q g1 g2 g3 => by
    obtain ⟨A', c', rfl⟩ := g1.slice
    obtain ⟨f1, f2, f3, f4, f5⟩ := (h1.below q).grow hdB ((q.cell (p := ⟨gm, d, none⟩) h1.lt.2.2).trans e1) g1 g2 g3
    have hT : Tn X W1 Wp := ⟨Turns.of_below q _, ⟨q.size, fun k o hk _ => (q.block k (Array.getElem?_eq_some_iff.1 hk).1).trans hk⟩⟩
    exact ⟨A', _, c', rfl, f1, f2, f3, f4, t1.trans (hT.trans f5)⟩)
  obtain ⟨Av, kv, cv, rfl⟩ : ∃ A k c, v = .slice A k c := by obtain ⟨A, c, e⟩ := r1.slice; exact ⟨A, _, c, e⟩
  clear h1 t1 r1 o1
  obtain ⟨kA, kB⟩ := KEEP.out W1 (Below.refl _ _)
  go_upto_region 3 with fail
  obtain ⟨kA2, kB2⟩ := KEEP.out W1.drew (bdrew (Below.refl _ _))
  obtain ⟨kA3, kB3⟩ := KEEP.out (W1.alloc (.cells #[.int .i64 (u : Int)] 3)).drew (bdrew (balloc (Below.refl _ _) _))
  obtain ⟨kA4, kB4⟩ := KEEP.out (W1.alloc (.cells #[.int .i64 (u : Int)] 3)) (balloc (Below.refl _ _) _)
  go_region_law (refine step_append_num_at rfl (.tmp 40) (.tmp 42) rfl 0 (.slice Av kv cv) (mem d) u _ rfl (HV.out _ (by repeat (first | (with_reducible exact Below.refl _ _) | (with_reducible apply bdrew) | (with_reducible apply balloc)))) rfl (HKC.out _) hl (Nat.zero_le _) ?_; intro v' w2 t1 t2 t3; obtain ⟨A', k', c', rfl, f1, f2, f3, f4, f5⟩ := FIN.out _ w2 v' (by repeat (first | (with_reducible exact Below.refl _ _) | (with_reducible apply bdrew) | (with_reducible apply balloc))) t1 t2 t3; clear t1 t2 t3)
  all_goals
    generalize w2.setCell ⟨gm, d, none⟩ (.slice A' k' c') = W3 at *
    clear kA kB kA2 kB2 kA3 kB3 kA4 kB4 f1 f2 f3 c0 c1 c2 c5 e1
    obtain ⟨c0, c1, c2⟩ := f4.cells
    have c6 := f4.box.frozen 2
    have hmin : min (low : Int) (d : Int) = ((min low d : Nat) : Int) := by omega
    obtain ⟨g1, g2⟩ := f4.setLow (min low d) (by omega)
    go_wp2_with fail
    go_end0
    exact ⟨rfl, g1, f5.trans g2⟩
end
end Go.Proofs.Ytoiafopndlnknaa
