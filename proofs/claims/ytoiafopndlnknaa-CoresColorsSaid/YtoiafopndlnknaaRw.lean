/-
  A range over an iterator that writes memory of its own between two rounds: what the caller says of the world abides whatever lies at or beyond the heap's end at the iterator's call. No round leaves.
-/
import Derived.Test.YtoiafopndlnknaaRf
set_option linter.unusedVariables false
set_option linter.unusedSimpArgs false
namespace Go.Proofs.Ytoiafopndlnknaa
open Go.RowKit Go.Shelf

variable {α : Type} {P : Program} {F : Fence} {n : Nat}
/-- an iterator that may write what it made itself -/
def SeqW (F : Fence) (n : Nat) (P : Program) (g : Nat) (lb : Array Value) (encs : α → Array Value) (Kp : Nat → World → World → Prop) (S : List α → Prop) (N : Nat) (w : World) : Prop :=
  ∀ (l : Nat) (J : List α → World → Prop) (W : World), Below w.heap.size w W → (∀ s A A', J s A → W.heap.size ≤ A.heap.size → Below W.heap.size A A' → J s A') →
    (∀ pre x W1, J pre W1 → pre.length < N → YieldAt F (n - 1) P l (encs x) W1 fun e W' => e = .returned (.bool true) ∧ J (pre ++ [x]) W' ∧ Kp W.heap.size W1 W') →
    J [] W → CallsIn F n P g (#[.func (.yield l) #[] #[]] ++ lb) W fun e W' => (∃ v, e = .returned v) ∧ ∃ xs, S xs ∧ J xs W'
/-- how a round ends: it goes on -/
def goesOn (Kp : World → World → Prop) (I : World → Prop) (W : World) : Exit → Act → World → Prop
  | .normal, _, W' => KeepsOthers W W' ∧ Kp W W' ∧ I W'
  | _, _, _ => False
theorem below_put {B l : Nat} {W : World} (o : Obj) (h : B ≤ l) : Below B W (W.putObj l o) :=
  ⟨rfl, rfl, rfl, by simp, fun k hk => World.putObj_heap_other (by omega)⟩
theorem wpIn_range_writes {g : Operand} {ps : Array Tmp} {assign body : Code} {Q : Exit → Act → World → Prop} {a : Act} {w : World}
    (hro : F.round = none) (h1 : 1 ≤ n) {gf : Nat} {lb : Array Value} (hg : a.eval g = .func (.func gf) #[] lb) (hFg : F.fn gf) (eg : ∀ args w, (callFunc gf args).run P w = .ok (.enter gf args) w)
    {encs : α → Array Value} {Kp : Nat → World → World → Prop} {S : List α → Prop} {N : Nat} (hseq : SeqW F (n - 1) P gf lb encs Kp S N w)
    (hKt : ∀ {m : Nat} {A B C : World}, Kp m A B → Kp m B C → Kp m A C) (hKb : ∀ (m : Nat) (W : World) (l : Nat) (o o' : Obj), w.heap.size ≤ l → l < m → W.heap[l]? = some o → o.isCells = false → Kp m W (W.putObj l o')) (hps : ∀ x, (encs x).size = ps.size)
    (I : List α → World → Prop) (hI : ∀ s A A', I s A → w.heap.size ≤ A.heap.size → Below w.heap.size A A' → I s A') (h0 : I [] w) (a₁ : α → Act)
    (hassign : ∀ (l : Nat) (x : α) (W : World) (K : Act → World → Prop), K (a₁ x) W →
      assign.wpIn (F.inRound l) (n - 1 - 1) P (Exit.then K (fun _ _ _ => False)) { tmps := (ps.zip (encs x)).foldl (fun t (p, v) => t.setIfInBounds p v) a.tmps, defers := [] } W)
    (hbody : ∀ (l : Nat) (pre : List α) (x : α) (W : World), w.heap.size ≤ W.heap.size → I pre W → pre.length < N → body.wpIn (F.inRound l) (n - 1 - 1) P (goesOn (Kp (w.heap.size + 2)) (I (pre ++ [x])) W) (a₁ x) W)
    (hdone : ∀ (D : Nat) (xs : List α) (W : World), w.heap.size ≤ D → S xs → I xs W → W.heap[D]? = some (.deferred (some [])) → Q .normal { a with defers := { target := .collected D, args := #[] } :: a.defers } W) :
    (Code.rangeFunc g ps assign body).wpIn F n P Q a w := by
  refine wpIn_rangeFunc ?_
  intro fn hfn
  rw [hro]
  obtain ⟨rc, hrc⟩ : ∃ rc : LoopState → Loop, rc = fun st => { state := st, pending := none, fn, tmps := a.tmps, params := ps, assign, body, defers := w.heap.size } := ⟨_, rfl⟩
  obtain ⟨W1, hW1⟩ : ∃ W1, (w.alloc (.deferred (some []))).alloc (.loop (rc .ready)) = W1 := ⟨_, rfl⟩
  have b1 : Below w.heap.size w W1 := by rw [← hW1]; exact ((Below.refl _ w).alloc (Nat.le_refl _) _).alloc (by simp) _
  have hz : W1.heap.size = w.heap.size + 2 := by rw [← hW1]; simp
  have kl : W1.heap[w.heap.size + 1]? = some (.loop (rc .ready)) := by
    rw [← hW1]
    have := World.alloc_heap_new (w.alloc (.deferred (some []))) (.loop (rc .ready))
    rwa [World.size_alloc] at this
  have kd : W1.heap[w.heap.size]? = some (.deferred (some [])) := by
    rw [← hW1]
    exact (Below.heap_alloc _ _ _ (by simp)).trans (World.alloc_heap_new w _)
  refine ⟨w.heap.size + 1, [{ target := .collected w.heap.size, args := #[] }], W1, { target := .fn (.func gf) lb, args := #[.func (.yield (w.heap.size + 1)) #[] #[]] }, W1, gf,
    #[.func (.yield (w.heap.size + 1)) #[] #[]] ++ lb, W1, by rw [← hW1, hrc]; exact run_enterLoop_outer _ _ _ _ _, by simp only [resolve, hg]; simp [go_sem], fun f' hf' => by simp [Target.leads] at hf'; subst hf'; exact hFg, by simp [invoke, go_sem, eg], fun _ => h1, ?_⟩
  refine (hseq (w.heap.size + 1) (fun pre W => I pre W ∧ w.heap.size + 2 ≤ W.heap.size ∧ W.heap[w.heap.size + 1]? = some (.loop (rc .ready)) ∧ W.heap[w.heap.size]? = some (.deferred (some []))) W1 b1
    (fun s A A' ⟨i1, i2, i3, i4⟩ hz2 hb => ⟨hI s A A' i1 (by omega) (hb.mono (by omega)), Nat.le_trans i2 hb.size, (hb.block _ (by omega)).trans i3, (hb.block _ (by omega)).trans i4⟩)
    ?_ ⟨hI _ _ _ h0 (Nat.le_refl _) b1, by omega, kl, kd⟩).mono ?_
  · rintro pre x W ⟨i1, i2, i3, i4⟩ hlen
    have hlt : w.heap.size + 1 < W.heap.size := by omega
    have hy := run_yield (P := P) (args := encs x) i3 (by rw [hrc]; exact hps x)
    rw [hrc] at hy
    obtain ⟨W2, hW2⟩ : ∃ W2, W.putObj (w.heap.size + 1) (.loop { rc .ready with state := .busy }) = W2 := ⟨_, rfl⟩
    have j3 : W2.heap[w.heap.size + 1]? = some (.loop { rc .ready with state := .busy }) := by rw [← hW2]; exact World.putObj_heap_same hlt
    have j4 : W2.heap[w.heap.size]? = some (.deferred (some [])) := by rw [← hW2]; exact (World.putObj_heap_other (by omega)).trans i4
    have jb : Below w.heap.size W W2 := by rw [← hW2]; exact below_put _ (by omega)
    have jk : Kp W1.heap.size W W2 := by rw [← hW2]; exact hKb _ _ _ _ _ (by omega) (by omega) i3 rfl
    refine ⟨fn, _, assign, body, hy, roundIn_of_wpIn hfn (hassign _ x W _ ⟨W2, by rw [← hW2]; exact run_beginRound i3 (by rw [hrc]), ?_⟩)⟩
    refine wpIn_mono (hbody _ pre x W2 (by have := jb.size; omega) (hI _ _ _ i1 (by omega) jb) hlen) ?_
    rintro e a3 W3 hp
    cases e with
    | normal =>
      obtain ⟨hk3, hkp, hi3⟩ := hp
      rw [← hz] at hkp
      have l3 := hk3.same _ _ j3 rfl
      have d3 := hk3.same _ _ j4 rfl
      have hz3 := hk3.size
      have he := run_endRound (P := P) none l3
      refine ⟨_, _, he, rfl, ⟨hI _ _ _ hi3 (by have := jb.size; omega) (below_put _ (by omega)), by simp; have := jb.size; omega, ?_, (World.putObj_heap_other (by omega)).trans d3⟩, hKt (hKt jk hkp) (hKb _ _ _ _ _ (by omega) (by omega) l3 rfl)⟩
      rw [World.putObj_heap_same (by have := jb.size; omega)]
      rw [hrc]
      rfl
    | ret => exact hp.elim
    | exit id => exact hp.elim
    | goto t => exact hp.elim
    | panic ch => exact hp.elim
    | outgrown => exact hp.elim
  · rintro e W2 ⟨⟨v, rfl⟩, xs, hS, i1, i2, i3, i4⟩
    refine ⟨none, _, by have := run_endLoop (P := P) i3 (by rw [hrc]; simp); rw [hrc] at this; exact this, hdone _ xs _ (Nat.le_refl _) hS (hI _ _ _ i1 (by omega) (below_put _ (by omega))) ((World.putObj_heap_other (by omega)).trans i4)⟩
end Go.Proofs.Ytoiafopndlnknaa
