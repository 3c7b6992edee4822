/-
  Splaying, plainly: what each step wants of the state.
-/
import Derived.Test.YtgichkjomhnehaaW8
set_option linter.unusedVariables false
set_option linter.unusedSimpArgs false
namespace Go.Proofs.Ytgichkjomhnehaa

def Z0 : Nd := ⟨0, 0, 0, false, 0, 0, 0, 0, 0⟩
theorem going_all {V : Nat → Int} {x : Nat} {σ ι : List Nat} (hn : ι.Nodup) : ∀ {ps : List Nat} {st : Nat → Nd}, Going V st x ps σ ι → ps ≠ [] → (∀ k, k ∉ ι → pushL st ps k = st k) ∧ ∃ c, Ctx V (pushL st ps) x c σ ι
  | [], _, _, h => (h rfl).elim
  | j :: ps, st, h, _ => by
    obtain ⟨h1, h2, h3⟩ := going_step h hn
    by_cases hps : ps = []
    · subst hps
      exact ⟨h1, h2 rfl⟩
    · obtain ⟨k1, k2⟩ := going_all hn (h3 hps) hps
      exact ⟨fun k hk => (k1 k hk).trans (h1 k hk), k2⟩
theorem over_ok {V : Nat → Int} (hF : Fit V) {st : Nat → Nd} {i n : Nat} {I : List Nat} (h : Over V st i I) (hI : ∀ j ∈ I, 1 ≤ j ∧ j ≤ n) (hl : I.length ≤ 65536) (hz : st 0 = Z0) : Fits (st i).v ∧ KidOk n st i (st i).k0 ∧ KidOk n st i (st i).k1 := by
  obtain ⟨l, r, h1, h2, e0, e1, hm, ll, lr, ev⟩ := h
  have key : ∀ t : T, Rep V st i t → (∀ j ∈ t.ids, j ∈ I ∧ j ≠ i) → t.ids.length ≤ I.length → KidOk n st i t.root := fun t ht hm hl2 => by
    have hs := kid_size ht (by rw [hz]; rfl)
    by_cases h0 : t.root = 0
    · refine ⟨by omega, fun h => (h h0).elim, by omega, ?_, ?_, ?_⟩
      · rw [h0, hz]; exact Nat.zero_le _
      · rw [h0, hz]; decide
      · rw [h0, hz]; decide
    · have hr := root_ids h0
      have ha := ht.agg h0
      exact ⟨(hI _ (hm _ hr).1).2, fun _ => (hm _ hr).2, by omega, (hI _ (hm _ ha.first.1).1).2, ha.h0, ha.h1⟩
  rw [e0, e1]
  exact ⟨by rw [ev]; exact hF i, key l h1 (fun j hj => hm j (Or.inl hj)) ll, key r h2 (fun j hj => hm j (Or.inr hj)) lr⟩
/-- all of one tree, and what surrounds it -/
structure Env (V : Nat → Int) (n : Nat) (st : Nat → Nd) (ι : List Nat) : Prop where
  fit : Fit V
  nd : ι.Nodup
  mem : ∀ j ∈ ι, 1 ≤ j ∧ j ≤ n
  len : ι.length ≤ 65536
  zero : st 0 = Z0
  kb : KB n st
theorem Env.zero_mem {V : Nat → Int} {n : Nat} {st : Nat → Nd} {ι : List Nat} (h : Env V n st ι) : 0 ∉ ι := fun e => by have := h.mem 0 e; omega
theorem KB.hang {n : Nat} {st : Nat → Nd} (h : KB n st) (i : Nat) (side : Bool) {k : Nat} (hk : k ≤ n) : KB n (hangF st i side k) := by
  have h1 : KB n (Go.Proofs.Ytgichkjomhnehaa.put st i (setK (st i) side k)) := by
    refine h.put i ?_ ?_
    · cases side
      · exact hk
      · exact (h i).1
    · cases side
      · exact (h i).2
      · exact hk
  unfold hangF
  split
  · exact h1
  · exact h1.put k (h1 k).1 (h1 k).2
theorem KB.refresh {n : Nat} {st : Nat → Nd} (h : KB n st) (i : Nat) : KB n (refreshF st i) := h.put i (by rw [(refreshN_keep st i).1]; exact (h i).1) (by rw [(refreshN_keep st i).2.1]; exact (h i).2)
theorem KB.kid {n : Nat} {st : Nat → Nd} (h : KB n st) (i : Nat) (side : Bool) : kid (st i) side ≤ n := by
  unfold Go.Proofs.Ytgichkjomhnehaa.kid
  split
  · exact (h i).2
  · exact (h i).1
theorem KB.rot1 {n : Nat} {st : Nat → Nd} (h : KB n st) {x p g : Nat} (hx : x ≤ n) : KB n (rot1 st x p g) := by
  unfold Go.Proofs.Ytgichkjomhnehaa.rot1
  split
  · exact h.put x (h x).1 (h x).2
  · exact h.hang g _ hx
theorem KB.rotate {n : Nat} {st : Nat → Nd} (h : KB n st) {x : Nat} (hx : x ≤ n) (hp : (st x).up ≤ n) : KB n (rotateF st x) := by
  unfold rotateF rot2
  have h1 := h.rot1 (x := x) (p := (st x).up) (g := (st (st x).up).up) hx
  exact (((h1.hang _ _ (h1.kid _ _)).hang _ _ hp).refresh _).refresh _
theorem par_mem {c : List Fr} (h : par c ≠ 0) : par c ∈ cids c := by
  cases c with
  | nil => exact (h rfl).elim
  | cons f c => simp [par, cids]
/-- a rotation can be walked, and what it leaves -/
theorem rot_ready {V : Nat → Int} {n : Nat} {st : Nat → Nd} {x : Nat} {σ ι : List Nat} {fr : Fr} {c : List Fr} (hE : Env V n st ι) (h : Ctx V st x (fr :: c) σ ι) : RotOk n st x ∧ Ctx V (rotateF st x) x c σ ι ∧ (∀ k, k ∉ ι → rotateF st x k = st k) ∧ Env V n (rotateF st x) ι := by
  have ht := h.top
  have hm := h.mem
  have hx := h.next hE.nd
  obtain ⟨r1, r2, o1, o2⟩ := h.rotate hE.fit hE.nd
  have hup : (st x).up = fr.i := ht.1
  have hxn := (hE.mem x hm.1).2
  have hpm : fr.i ∈ ι := hm.2 _ (by simp [cids])
  have hpn := (hE.mem _ hpm).2
  have hgn : par c ≤ n := by
    by_cases hg : par c = 0
    · omega
    · exact (hE.mem _ (hm.2 _ (by simp [cids, par_mem hg]))).2
  have hz0 : rotateF st x 0 = st 0 := r2 0 hE.zero_mem
  have hmid2 : refreshF (midF st x) (st x).up 0 = st 0 := by
    rw [← hz0]
    show _ = refreshF (refreshF (midF st x) (st x).up) x 0
    exact (put_ne _ _ (Ne.symm ht.2)).symm
  have hmid : midF st x 0 = st 0 := by
    rw [← hmid2]
    exact (put_ne _ _ (by rw [hup]; exact Ne.symm hx.1)).symm
  obtain ⟨v1, a0, a1⟩ := over_ok hE.fit o1 hE.mem hE.len (by rw [hmid]; exact hE.zero)
  obtain ⟨v2, b0, b1⟩ := over_ok hE.fit o2 hE.mem hE.len (by rw [hmid2]; exact hE.zero)
  refine ⟨⟨hxn, by rw [hup]; exact hx.1, by rw [hup]; exact hpn, by rw [hup]; exact hx.2.2.2, by rw [hup, hx.2.1]; exact hgn, (hE.kb.rot1 hxn).kid _ _, v1, a0, a1, v2, b0, b1⟩, r1, r2, ⟨hE.fit, hE.nd, hE.mem, hE.len, hz0.trans hE.zero, hE.kb.rotate hxn (by rw [hup]; exact hpn)⟩⟩
/-- the parent's rotation, both on one side -/
theorem rot_up_ready {V : Nat → Int} {n : Nat} {st : Nat → Nd} {x : Nat} {σ ι : List Nat} {fr fr2 : Fr} {c : List Fr} (hE : Env V n st ι) (h : Ctx V st x (fr :: fr2 :: c) σ ι) (hs : fr.side = fr2.side) : RotOk n st fr.i ∧ (∃ fr', Ctx V (rotateF st fr.i) x (fr' :: c) σ ι) ∧ (∀ k, k ∉ ι → rotateF st fr.i k = st k) ∧ Env V n (rotateF st fr.i) ι := by
  obtain ⟨h1, _, h3, h4⟩ := rot_ready hE (h.next2 hE.nd).2
  exact ⟨h1, h.rotate_up hE.fit hE.nd hs, h3, h4⟩
end Go.Proofs.Ytgichkjomhnehaa
