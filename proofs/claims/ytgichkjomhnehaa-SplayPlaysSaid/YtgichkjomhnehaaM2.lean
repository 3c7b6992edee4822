/-
  Splay trees, plainly: a push, a rotation.
-/
import Derived.Test.YtgichkjomhnehaaM1
set_option linter.unusedVariables false
set_option linter.unusedSimpArgs false
namespace Go.Proofs.Ytgichkjomhnehaa

def togF (st : Nat → Nd) (k : Nat) : Nat → Nd := if k = 0 then st else put st k { st k with flip := !(st k).flip }
def swapF (st : Nat → Nd) (i : Nat) : Nat → Nd := put st i { st i with flip := false, k0 := (st i).k1, k1 := (st i).k0 }
def pushF (st : Nat → Nd) (i : Nat) : Nat → Nd := if (st i).flip = true then togF (togF (swapF st i) (st i).k1) (st i).k0 else st
def T.pushed : T → T
  | .nil => .nil
  | .node l i true r => .node r.tog i false l.tog
  | .node l i false r => .node l i false r
theorem T.pushed_root (t : T) : t.pushed.root = t.root := by
  cases t with
  | nil => rfl
  | node l i f r => cases f <;> rfl
theorem T.pushed_ids (t : T) : t.pushed.ids.Perm t.ids := by
  cases t with
  | nil => exact List.Perm.refl _
  | node l i f r =>
    cases f
    · exact List.Perm.refl _
    · show (r.tog.ids ++ i :: l.tog.ids).Perm (l.ids ++ i :: r.ids)
      rw [T.tog_ids, T.tog_ids]
      exact List.perm_middle.trans ((List.perm_append_comm.cons _).trans List.perm_middle.symm)
theorem T.pushed_seq (t : T) : t.pushed.seq = t.seq := by
  cases t with
  | nil => rfl
  | node l i f r =>
    cases f
    · rfl
    · simp [pushed, seq, T.tog_seq]
theorem togF_ne (st : Nat → Nd) {k j : Nat} (h : j ≠ k) : togF st k j = st j := by
  unfold togF
  split
  · rfl
  · exact put_ne _ _ h
theorem togF_at (st : Nat → Nd) {k : Nat} (h : k ≠ 0) : togF st k k = { st k with flip := !(st k).flip } := by
  unfold togF
  rw [if_neg h, put_at]
theorem root_ids {t : T} (h : t.root ≠ 0) : t.root ∈ t.ids := T.root_mem (fun e => h (by rw [e]; rfl))
/-- what a push does -/
theorem push_law {V : Nat → Int} {st : Nat → Nd} {t : T} {p : Nat} (h : Rep V st p t) (hn : t.ids.Nodup) : Rep V (pushF st t.root) p t.pushed ∧ (t.root ≠ 0 → ∀ j, j ∉ t.ids → pushF st t.root j = st j) := by
  cases t with
  | nil => exact ⟨trivial, fun h => (h rfl).elim⟩
  | node l i f r =>
    obtain ⟨⟨h0, hu, e0, e1, ef, ev, ha⟩, hl, hr⟩ := h
    have hn0 := hn
    unfold T.ids at hn
    have hn' := List.nodup_append.1 hn
    have hi := List.nodup_cons.1 hn'.2.1
    have hil : i ∉ l.ids := fun h => hn'.2.2 i h i (by simp) rfl
    have hlr : ∀ j ∈ l.ids, j ∉ r.ids := fun j h1 h2 => hn'.2.2 j h1 j (by simp [h2]) rfl
    simp only [T.root]
    cases f with
    | false =>
      unfold pushF
      rw [if_neg (by rw [ef]; decide)]
      exact ⟨⟨⟨h0, hu, e0, e1, ef, ev, ha⟩, hl, hr⟩, fun _ _ _ => rfl⟩
    | true =>
      have hp : pushF st i = togF (togF (swapF st i) r.root) l.root := by
        unfold pushF
        rw [if_pos ef, e0, e1]
      rw [hp]
      have ril : l.root ≠ 0 → l.root ∈ l.ids := root_ids
      have rir : r.root ≠ 0 → r.root ∈ r.ids := root_ids
      have nil_ : i ≠ l.root := fun e => by
        rcases Nat.eq_zero_or_pos l.root with h | h
        · omega
        · exact hil (e ▸ ril (by omega))
      have nir_ : i ≠ r.root := fun e => by
        rcases Nat.eq_zero_or_pos r.root with h | h
        · omega
        · exact hi.1 (e ▸ rir (by omega))
      have ati : togF (togF (swapF st i) r.root) l.root i = { st i with flip := false, k0 := (st i).k1, k1 := (st i).k0 } := by
        rw [togF_ne _ nil_, togF_ne _ nir_]
        exact put_at _ _ _
      have inl : ∀ j ∈ l.ids, togF (swapF st i) r.root j = st j := fun j hj => by
        have n1 : j ≠ r.root := fun e => by
          rcases Nat.eq_zero_or_pos r.root with h | h
          · exact (hl.pos j hj).1 (by omega)
          · exact hlr j hj (e ▸ rir (by omega))
        rw [togF_ne _ n1]
        exact put_ne _ _ (fun e => hil (e ▸ hj))
      have inr : ∀ j ∈ r.ids, togF (togF (swapF st i) r.root) l.root j = togF (swapF st i) r.root j := fun j hj => by
        refine togF_ne _ (fun e => ?_)
        rcases Nat.eq_zero_or_pos l.root with h | h
        · exact (hr.pos j hj).1 (by omega)
        · exact hlr j (e ▸ ril (by omega)) hj
      have sr : ∀ j ∈ r.ids, swapF st i j = st j := fun j hj => put_ne _ _ (fun e => hi.1 (e ▸ hj))
      refine ⟨⟨⟨h0, ?_⟩, ?_, ?_⟩, fun _ j hj => ?_⟩
      · rw [ati]
        refine ⟨hu, ?_, ?_, rfl, ev, ?_⟩
        · rw [T.tog_root]; exact e1
        · rw [T.tog_root]; exact e0
        · rw [T.tog_ids, T.tog_ids]
          exact (ha.perm (List.perm_middle.trans ((List.perm_append_comm.cons _).trans List.perm_middle.symm))).congr rfl rfl rfl rfl
      · refine Rep.toggle hr hi.2 (fun j hj hne => ?_) (fun hne => ?_)
        · rw [inr j hj, togF_ne _ hne, sr j hj]
        · rw [inr _ (rir hne), togF_at _ hne, sr _ (rir hne)]
      · refine Rep.toggle hl hn'.1 (fun j hj hne => ?_) (fun hne => ?_)
        · rw [togF_ne _ hne, inl j hj]
        · rw [togF_at _ hne, inl _ (ril hne)]
      · have hji : j ≠ i := fun e => hj (by simp [T.ids, e])
        have hjl : j ≠ 0 → j ≠ l.root := fun h0 e => hj (by simp only [T.ids, List.mem_append]; exact Or.inl (e ▸ ril (fun h => h0 (e.trans h))))
        have hjr : j ≠ 0 → j ≠ r.root := fun h0 e => hj (by simp only [T.ids, List.mem_append, List.mem_cons]; exact Or.inr (Or.inr (e ▸ rir (fun h => h0 (e.trans h)))))
        by_cases hj0 : j = 0
        · have z : ∀ (s : Nat → Nd) k, togF s k 0 = s 0 := fun s k => by
            by_cases hk : k = 0
            · unfold togF; rw [if_pos hk]
            · exact togF_ne _ (fun e => hk e.symm)
          rw [hj0, z, z]
          exact put_ne _ _ (by rw [← hj0]; exact hji)
        · rw [togF_ne _ (hjl hj0), togF_ne _ (hjr hj0)]
          exact put_ne _ _ hji
theorem nodup_perm {l l' : List Nat} (p : l.Perm l') : l.Nodup ↔ l'.Nodup := p.nodup_iff
/-- a push in a context -/
theorem push_in {V : Nat → Int} {st : Nat → Nd} {c : List Fr} {t : T} (h : Rep V st 0 (plug c t)) (hn : (plug c t).ids.Nodup) (ht : t.root ≠ 0) : Rep V (pushF st t.root) 0 (plug c t.pushed) ∧ ∀ j, j ∉ (plug c t).ids → pushF st t.root j = st j := by
  have p := plug_ids c t
  have hn2 := List.nodup_append.1 ((nodup_perm p).1 hn)
  obtain ⟨h1, h2⟩ := rep_plug.1 h
  obtain ⟨k1, k2⟩ := push_law h1 hn2.1
  refine ⟨rep_plug.2 ⟨k1, ?_⟩, fun j hj => k2 ht j (fun e => hj (p.mem_iff.2 (by simp [e])))⟩
  rw [T.pushed_root]
  exact (h2.congr fun j hj => k2 ht j (fun e => hn2.2.2 j e j hj rfl)).perm (T.pushed_ids t).symm

/-! a rotation -/
def hangF (st : Nat → Nd) (i : Nat) (side : Bool) (k : Nat) : Nat → Nd :=
  if k = 0 then put st i (setK (st i) side k) else put (put st i (setK (st i) side k)) k { (put st i (setK (st i) side k)) k with up := i }
def sideF (st : Nat → Nd) (i : Nat) : Bool := decide ((st (st i).up).k1 = i)
def rot1 (st : Nat → Nd) (i p g : Nat) : Nat → Nd := if g = 0 then put st i { st i with up := 0 } else hangF st g (sideF st p) i
def rot2 (st : Nat → Nd) (i p : Nat) (side : Bool) : Nat → Nd := hangF (hangF st p side (kid (st i) (!side))) i (!side) p
def rotateF (st : Nat → Nd) (i : Nat) : Nat → Nd :=
  refreshF (refreshF (rot2 (rot1 st i (st i).up (st (st i).up).up) i (st i).up (sideF st i)) (st i).up) i
theorem hang_keep {st : Nat → Nd} {i k j : Nat} {side : Bool} (h1 : j ≠ i) (h2 : j ≠ k) : hangF st i side k j = st j := by
  unfold hangF
  split
  · exact put_ne _ _ h1
  · rw [put_ne _ _ h2, put_ne _ _ h1]
theorem hang_top {st : Nat → Nd} {i k : Nat} {side : Bool} (h : i ≠ k) : hangF st i side k i = setK (st i) side k := by
  unfold hangF
  split
  · exact put_at _ _ _
  · rw [put_ne _ _ h, put_at]
theorem hang_kid {st : Nat → Nd} {i k : Nat} {side : Bool} (h : i ≠ k) (hk : k ≠ 0) : hangF st i side k k = { st k with up := i } := by
  unfold hangF
  rw [if_neg hk, put_at, put_ne _ _ h.symm]
/-- the tree after a rotation: x, with kids a and b, above its parent -/
def spun (fr : Fr) (a : T) (x : Nat) (b : T) : T := if fr.side = true then .node (.node fr.sib fr.i false a) x false b else .node a x false (.node b fr.i false fr.sib)
theorem spun_seq (fr : Fr) (a : T) (x : Nat) (b : T) : (spun fr a x b).seq = (fill fr (.node a x false b)).seq := by
  unfold spun fill
  split <;> simp [T.seq]
theorem spun_ids (fr : Fr) (a : T) (x : Nat) (b : T) : (spun fr a x b).ids = (fill fr (.node a x false b)).ids := by
  unfold spun fill
  split <;> simp [T.ids]
theorem spun_root (fr : Fr) (a : T) (x : Nat) (b : T) : (spun fr a x b).root = x := by
  unfold spun
  split <;> rfl
theorem sideF_of {V : Nat → Int} {st : Nat → Nd} {fr : Fr} {k : Nat} (hk : k ≠ 0) (hu : (st k).up = fr.i) (h1 : kid (st fr.i) fr.side = k) (h2 : kid (st fr.i) (!fr.side) = fr.sib.root) (h3 : k ∉ fr.sib.ids) : sideF st k = fr.side := by
  unfold sideF
  rw [hu]
  cases hs : fr.side with
  | true =>
    rw [hs] at h1
    exact decide_eq_true h1
  | false =>
    rw [hs] at h1 h2
    refine decide_eq_false (fun e => ?_)
    have e2 : (st fr.i).k1 = fr.sib.root := h2
    rw [e] at e2
    exact h3 (e2 ▸ root_ids (by rw [← e2]; exact hk))
/-- the state of a rotation ahead of its two refreshes -/
def midF (st : Nat → Nd) (i : Nat) : Nat → Nd := rot2 (rot1 st i (st i).up (st (st i).up).up) i (st i).up (sideF st i)
/-- a node over two subtrees of the nodes I -/
def Over (V : Nat → Int) (st : Nat → Nd) (i : Nat) (I : List Nat) : Prop := ∃ l r, Rep V st i l ∧ Rep V st i r ∧ (st i).k0 = l.root ∧ (st i).k1 = r.root ∧ (∀ j, j ∈ l.ids ∨ j ∈ r.ids → j ∈ I ∧ j ≠ i) ∧ l.ids.length ≤ I.length ∧ r.ids.length ≤ I.length ∧ (st i).v = V i
theorem Over.perm {V : Nat → Int} {st : Nat → Nd} {i : Nat} {I J : List Nat} (h : Over V st i I) (p : I.Perm J) : Over V st i J := by
  obtain ⟨l, r, h1, h2, h3, h4, h5, h6, h7, h8⟩ := h
  exact ⟨l, r, h1, h2, h3, h4, fun j hj => ⟨p.mem_iff.1 (h5 j hj).1, (h5 j hj).2⟩, by rw [← p.length_eq]; exact h6, by rw [← p.length_eq]; exact h7, h8⟩
/-- what a rotation does -/
theorem rotate_law {V : Nat → Int} (hF : Fit V) {st : Nat → Nd} {fr : Fr} {c : List Fr} {a b : T} {x : Nat} (h : Rep V st 0 (plug (fr :: c) (.node a x false b))) (hn : (plug (fr :: c) (.node a x false b)).ids.Nodup) :
    Rep V (rotateF st x) 0 (plug c (spun fr a x b)) ∧ (∀ j, j ∉ (plug (fr :: c) (.node a x false b)).ids → rotateF st x j = st j) ∧ Over V (midF st x) (st x).up (plug (fr :: c) (.node a x false b)).ids ∧ Over V (refreshF (midF st x) (st x).up) x (plug (fr :: c) (.node a x false b)).ids := by
  have P := plug_ids (fr :: c) (.node a x false b)
  have hn2 := (nodup_perm P).1 hn
  obtain ⟨⟨⟨x0, xu, xk0, xk1, xf, xv, xa⟩, ha, hb⟩, ⟨p0, pu, pk, pk', pf, pv, pa⟩, hs, hc⟩ := rep_plug.1 h
  change (st x).up = fr.i at xu
  change kid (st fr.i) fr.side = x at pk
  obtain ⟨side, p, sib⟩ := fr
  dsimp only at *
  -- what is apart
  rw [show (T.node a x false b).ids = a.ids ++ x :: b.ids from rfl, show cids (⟨side, p, sib⟩ :: c) = p :: (sib.ids ++ cids c) from rfl] at hn2
  simp only [List.nodup_append, List.nodup_cons, List.mem_append, List.mem_cons, not_or] at hn2
  obtain ⟨⟨na, ⟨nxb, nb⟩, nab⟩, ⟨⟨nps, npc⟩, ns, ncc, nsc⟩, nall⟩ := hn2
  have nax : ∀ j ∈ a.ids, j ≠ x := fun j hj => nab j hj x (Or.inl rfl)
  have nxa : x ∉ a.ids := fun h => nax x h rfl
  have npx : p ≠ x := fun e => nall x (Or.inr (Or.inl rfl)) p (Or.inl rfl) e.symm
  have npa : p ∉ a.ids := fun h => nall p (Or.inl h) p (Or.inl rfl) rfl
  have npb : p ∉ b.ids := fun h => nall p (Or.inr (Or.inr h)) p (Or.inl rfl) rfl
  have nxs : x ∉ sib.ids := fun h => nall x (Or.inr (Or.inl rfl)) x (Or.inr (Or.inl h)) rfl
  have nxc : x ∉ cids c := fun h => nall x (Or.inr (Or.inl rfl)) x (Or.inr (Or.inr h)) rfl
  have nas : ∀ j ∈ a.ids, j ∉ sib.ids := fun j h1 h2 => nall j (Or.inl h1) j (Or.inr (Or.inl h2)) rfl
  have nbs : ∀ j ∈ b.ids, j ∉ sib.ids := fun j h1 h2 => nall j (Or.inr (Or.inr h1)) j (Or.inr (Or.inl h2)) rfl
  have nac : ∀ j ∈ a.ids, j ∉ cids c := fun j h1 h2 => nall j (Or.inl h1) j (Or.inr (Or.inr h2)) rfl
  have nbc : ∀ j ∈ b.ids, j ∉ cids c := fun j h1 h2 => nall j (Or.inr (Or.inr h1)) j (Or.inr (Or.inr h2)) rfl
  have nsc' : ∀ j ∈ sib.ids, j ∉ cids c := fun j h1 h2 => nsc j h1 j h2 rfl
  have nabj : ∀ j ∈ a.ids, j ∉ b.ids := fun j h1 h2 => nab j h1 j (Or.inr h2) rfl
  have hside : sideF st x = side := sideF_of (V := V) (fr := ⟨side, p, sib⟩) x0 xu pk pk' nxs
  -- the moved kid, the one that stays
  obtain ⟨m, hm⟩ : ∃ m, m = if side = true then a else b := ⟨_, rfl⟩
  obtain ⟨o, ho⟩ : ∃ o, o = if side = true then b else a := ⟨_, rfl⟩
  have hmi : ∀ j ∈ m.ids, j ∈ a.ids ∨ j ∈ b.ids := fun j hj => by
    rw [hm] at hj
    split at hj
    · exact Or.inl hj
    · exact Or.inr hj
  have hoi : ∀ j ∈ o.ids, j ∈ a.ids ∨ j ∈ b.ids := fun j hj => by
    rw [ho] at hj
    split at hj
    · exact Or.inr hj
    · exact Or.inl hj
  have hmR : Rep V st x m := by rw [hm]; split <;> assumption
  have hoR : Rep V st x o := by rw [ho]; split <;> assumption
  have hmn : m.ids.Nodup := by rw [hm]; split <;> assumption
  have hmo : ∀ j ∈ m.ids, j ∉ o.ids := fun j h1 h2 => by
    cases side
    · rw [hm] at h1; rw [ho] at h2; exact nabj j h2 h1
    · rw [hm] at h1; rw [ho] at h2; exact nabj j h1 h2
  have hkm : kid (st x) (!side) = m.root := by
    rw [hm]
    cases side
    · exact xk1
    · exact xk0
  have hko : kid (st x) side = o.root := by
    rw [ho]
    cases side
    · exact xk0
    · exact xk1
  have hab : ∀ j, j ∈ a.ids ∨ j ∈ b.ids → j ≠ x ∧ j ≠ p ∧ j ∉ sib.ids ∧ j ∉ cids c := fun j hj => by
    rcases hj with hj | hj
    · exact ⟨nax j hj, fun e => npa (e ▸ hj), nas j hj, nac j hj⟩
    · exact ⟨fun e => nxb (e ▸ hj), fun e => npb (e ▸ hj), nbs j hj, nbc j hj⟩
  have mroot : m.root ≠ 0 → m.root ∈ m.ids := root_ids
  -- the grandparent
  obtain ⟨g, hg⟩ : ∃ g, par c = g := ⟨_, rfl⟩
  rw [hg] at pu
  have hgc : g ≠ 0 → g ∈ cids c := fun hne => by
    cases c with
    | nil => exact (hne hg.symm).elim
    | cons f c => rw [← hg]; simp [par, cids]
  -- the first step
  have s1x : rot1 st x p g x = { st x with up := g } := by
    unfold rot1
    split
    · next e => rw [put_at, e]
    · next e => exact hang_kid (fun e2 => nxc (e2 ▸ hgc e)) x0
  have s1j : ∀ j, j ≠ x → j ≠ g → rot1 st x p g j = st j := fun j h1 h2 => by
    unfold rot1
    split
    · exact put_ne _ _ h1
    · exact hang_keep h2 h1
  have gx : g ≠ x := fun e => by
    by_cases h : g = 0
    · exact x0 (by omega)
    · exact nxc (e ▸ hgc h)
  have gp : g ≠ p := fun e => by
    by_cases h : g = 0
    · exact p0 (by omega)
    · exact npc (e ▸ hgc h)
  have offc : ∀ j, j ∉ cids c → j ≠ 0 → j ≠ g := fun j h h0 e => by
    by_cases hz : g = 0
    · omega
    · exact h (e ▸ hgc hz)
  -- the second step
  obtain ⟨q, hq⟩ : ∃ q, q = rot2 (rot1 st x p g) x p side := ⟨_, rfl⟩
  have e1 : kid (rot1 st x p g x) (!side) = m.root := by
    rw [s1x]
    exact hkm
  have mx : m.root ≠ x := fun e => by
    by_cases h : m.root = 0
    · exact x0 (by omega)
    · exact (hab _ (hmi _ (mroot h))).1 e
  have mp : m.root ≠ p := fun e => by
    by_cases h : m.root = 0
    · exact p0 (by omega)
    · exact (hab _ (hmi _ (mroot h))).2.1 e
  have qx : q x = setK { st x with up := g } (!side) p := by
    rw [hq]
    unfold rot2
    rw [e1, hang_top (Ne.symm npx), hang_keep (Ne.symm npx) mx.symm, s1x]
  have qp : q p = { setK (st p) side m.root with up := x } := by
    rw [hq]
    unfold rot2
    rw [e1, hang_kid (Ne.symm npx) p0, hang_top mp.symm, s1j p npx gp.symm]
  have qm : m.root ≠ 0 → q m.root = { st m.root with up := p } := fun h => by
    have hh := hab _ (hmi _ (mroot h))
    rw [hq]
    unfold rot2
    rw [e1, hang_keep mx mp, hang_kid mp.symm h, s1j _ mx (offc _ hh.2.2.2 h)]
  have qj : ∀ j, j ≠ x → j ≠ p → j ≠ m.root → q j = rot1 st x p g j := fun j h1 h2 h3 => by
    rw [hq]
    unfold rot2
    rw [e1, hang_keep h1 h2, hang_keep h2 h3]
  have qj' : ∀ j, j ≠ 0 → j ≠ x → j ≠ p → j ≠ m.root → j ∉ cids c → q j = st j := fun j h0 h1 h2 h3 h4 => by
    rw [qj j h1 h2 h3, s1j j h1 (offc j h4 h0)]
  -- the subtrees
  have Rm : Rep V q p m := hmR.setUp hmn (fun j hj hne => by
    have hh := hab _ (hmi _ hj)
    exact qj' j (hmR.pos j hj).1 hh.1 hh.2.1 hne hh.2.2.2) qm
  have Rs : Rep V q p sib := hs.congr fun j hj => by
    refine qj' j (hs.pos j hj).1 (fun e => nxs (e ▸ hj)) (fun e => nps (e ▸ hj)) (fun e => ?_) (nsc' j hj)
    by_cases h : m.root = 0
    · exact (hs.pos j hj).1 (by omega)
    · exact (hab _ (hmi _ (mroot h))).2.2.1 (e ▸ hj)
  have Ro : Rep V q x o := hoR.congr fun j hj => by
    have hh := hab _ (hoi _ hj)
    refine qj' j (hoR.pos j hj).1 hh.1 hh.2.1 (fun e => ?_) hh.2.2.2
    by_cases h : m.root = 0
    · exact (hoR.pos j hj).1 (by omega)
    · exact hmo _ (mroot h) (e ▸ hj)
  have kp := kid_setK (st p) side m.root
  have kx := kid_setK { st x with up := g } (!side) p
  -- the parent, refreshed
  obtain ⟨pn, hpn⟩ : ∃ pn, pn = if side = true then T.node sib p false m else T.node m p false sib := ⟨_, rfl⟩
  have Rp : Rep V (refreshF q p) x pn := by
    have e : (q p).flip = false := by rw [qp]; exact kp.2.2.2.1.trans pf
    have ev : (q p).v = V p := by rw [qp]; exact kp.2.2.2.2.1.trans pv
    have eu : (q p).up = x := by rw [qp]
    rw [hpn]
    cases side with
    | true =>
      have := node_refresh hF Rs Rm p0 (by rw [qp]; exact pk') (by rw [qp]; exact kp.1) ev nps (fun h => (hab _ (hmi _ h)).2.1 rfl)
      rw [e, eu] at this
      exact this
    | false =>
      have := node_refresh hF Rm Rs p0 (by rw [qp]; exact kp.1) (by rw [qp]; exact pk') ev (fun h => (hab _ (hmi _ h)).2.1 rfl) nps
      rw [e, eu] at this
      exact this
  have rj : ∀ j, j ≠ p → refreshF q p j = q j := fun j h => put_ne _ _ h
  have Ro2 : Rep V (refreshF q p) x o := Ro.congr fun j hj => rj j (hab _ (hoi _ hj)).2.1
  have pni : ∀ j ∈ pn.ids, j = p ∨ j ∈ sib.ids ∨ j ∈ m.ids := fun j hj => by
    rw [hpn] at hj
    split at hj
    · simp only [T.ids, List.mem_append, List.mem_cons] at hj
      rcases hj with hj | rfl | hj
      · exact Or.inr (Or.inl hj)
      · exact Or.inl rfl
      · exact Or.inr (Or.inr hj)
    · simp only [T.ids, List.mem_append, List.mem_cons] at hj
      rcases hj with hj | rfl | hj
      · exact Or.inr (Or.inr hj)
      · exact Or.inl rfl
      · exact Or.inr (Or.inl hj)
  have npn : x ∉ pn.ids := fun h => by
    rcases pni x h with e | e | e
    · exact npx e.symm
    · exact nxs e
    · exact (hab _ (hmi _ e)).1 rfl
  have nxo : x ∉ o.ids := fun h => (hab _ (hoi _ h)).1 rfl
  have pnr : pn.root = p := by rw [hpn]; split <;> rfl
  have rx : refreshF q p x = setK { st x with up := g } (!side) p := (rj x npx.symm).trans qx
  have hrot : rotateF st x = refreshF (refreshF q p) x := by
    unfold rotateF
    rw [xu, pu, hside, ← hq]
  have Rx : Rep V (rotateF st x) g (spun ⟨side, p, sib⟩ a x b) := by
    have ev : (refreshF q p x).v = V x := by rw [rx]; exact kx.2.2.2.2.1.trans xv
    have eu : (refreshF q p x).up = g := by rw [rx]; exact kx.2.2.1
    have ef : (refreshF q p x).flip = false := by rw [rx]; exact kx.2.2.2.1.trans xf
    rw [hrot]
    unfold spun
    cases side with
    | true =>
      have := node_refresh hF Rp Ro2 x0 (by rw [rx, pnr]; exact kx.1) (by rw [rx]; exact kx.2.1.trans hko) ev npn nxo
      rw [ef, eu, hpn, hm, ho] at this
      exact this
    | false =>
      have := node_refresh hF Ro2 Rp x0 (by rw [rx]; exact kx.2.1.trans hko) (by rw [rx, pnr]; exact kx.1) ev nxo npn
      rw [ef, eu, hpn, hm, ho] at this
      exact this
  -- the context
  have fj : ∀ j, j ≠ x → j ≠ p → rotateF st x j = q j := fun j h1 h2 => by
    rw [hrot]
    exact (put_ne _ _ h1).trans (rj j h2)
  have cj : ∀ j ∈ cids c, rotateF st x j = rot1 st x p g j := fun j hj => by
    have h1 : j ≠ x := fun e => nxc (e ▸ hj)
    have h2 : j ≠ p := fun e => npc (e ▸ hj)
    rw [fj j h1 h2]
    by_cases h : m.root = 0
    · by_cases hj0 : j = m.root
      · -- no place 0 in the context
        exfalso
        have : ∀ (c : List Fr) k l, RepC V st c k l → ∀ j ∈ cids c, j ≠ 0 := by
          intro c
          induction c with
          | nil => intro k l _ j hj; cases hj
          | cons f c ih =>
            rintro k l ⟨h, hs, hc⟩ j hj
            simp only [cids, List.mem_cons, List.mem_append] at hj
            rcases hj with rfl | hj | hj
            · exact h.1
            · exact (hs.pos j hj).1
            · exact ih _ _ hc j hj
        exact this c _ _ hc j hj (by omega)
      · exact qj j h1 h2 hj0
    · exact qj j h1 h2 (fun e => (hab _ (hmi _ (mroot h))).2.2.2 (e ▸ hj))
  have hmid : midF st x = q := by
    unfold midF
    rw [xu, pu, hside, ← hq]
  have PL := P.length_eq
  have inI : ∀ j, j = x ∨ j = p ∨ j ∈ a.ids ∨ j ∈ b.ids ∨ j ∈ sib.ids → j ∈ (plug (⟨side, p, sib⟩ :: c) (.node a x false b)).ids := fun j hj => P.mem_iff.2 (by
    show j ∈ (a.ids ++ x :: b.ids) ++ (p :: (sib.ids ++ cids c))
    simp only [List.mem_append, List.mem_cons]
    rcases hj with h | h | h | h | h <;> simp [h])
  have PL2 : (plug (⟨side, p, sib⟩ :: c) (.node a x false b)).ids.length = (a.ids.length + (b.ids.length + 1)) + ((sib.ids.length + (cids c).length) + 1) := by
    rw [PL]
    show ((a.ids ++ x :: b.ids) ++ (p :: (sib.ids ++ cids c))).length = _
    simp only [List.length_append, List.length_cons]
  have mlen : m.ids.length + o.ids.length = a.ids.length + b.ids.length := by rw [hm, ho]; cases side <;> simp <;> omega
  have pnl : pn.ids.length = m.ids.length + sib.ids.length + 1 := by rw [hpn]; cases side <;> simp [T.ids] <;> omega
  have ov1 : Over V q p (plug (⟨side, p, sib⟩ :: c) (.node a x false b)).ids := by
    have ev : (q p).v = V p := by rw [qp]; exact kp.2.2.2.2.1.trans pv
    have hmem : ∀ j, j ∈ m.ids ∨ j ∈ sib.ids → j ∈ (plug (⟨side, p, sib⟩ :: c) (.node a x false b)).ids ∧ j ≠ p := fun j hj => by
      rcases hj with hj | hj
      · refine ⟨inI j ?_, (hab _ (hmi _ hj)).2.1⟩
        rcases hmi _ hj with h | h <;> simp [h]
      · exact ⟨inI j (by simp [hj]), fun e => nps (e ▸ hj)⟩
    cases side with
    | true => exact ⟨sib, m, Rs, Rm, by rw [qp]; exact pk', by rw [qp]; exact kp.1, fun j hj => hmem j hj.symm, by omega, by omega, ev⟩
    | false => exact ⟨m, sib, Rm, Rs, by rw [qp]; exact kp.1, by rw [qp]; exact pk', hmem, by omega, by omega, ev⟩
  have ov2 : Over V (refreshF q p) x (plug (⟨side, p, sib⟩ :: c) (.node a x false b)).ids := by
    have ev : (refreshF q p x).v = V x := by rw [rx]; exact kx.2.2.2.2.1.trans xv
    have hmem : ∀ j, j ∈ pn.ids ∨ j ∈ o.ids → j ∈ (plug (⟨side, p, sib⟩ :: c) (.node a x false b)).ids ∧ j ≠ x := fun j hj => by
      rcases hj with hj | hj
      · refine ⟨inI j ?_, fun e => npn (e ▸ hj)⟩
        rcases pni j hj with h | h | h
        · simp [h]
        · simp [h]
        · rcases hmi _ h with h | h <;> simp [h]
      · refine ⟨inI j ?_, fun e => nxo (e ▸ hj)⟩
        rcases hoi _ hj with h | h <;> simp [h]
    cases side with
    | true => exact ⟨pn, o, Rp, Ro2, by rw [rx, pnr]; exact kx.1, by rw [rx]; exact kx.2.1.trans hko, hmem, by omega, by omega, ev⟩
    | false => exact ⟨o, pn, Ro2, Rp, by rw [rx]; exact kx.2.1.trans hko, by rw [rx, pnr]; exact kx.1, fun j hj => hmem j hj.symm, by omega, by omega, ev⟩
  refine ⟨rep_plug.2 ⟨by rw [hg]; exact Rx, ?_⟩, fun j hj => ?_, by rw [hmid, xu]; exact ov1, by rw [hmid, xu]; exact ov2⟩
  · rw [spun_root]
    have pids : (p :: ((T.node a x false b).ids ++ sib.ids)).Perm (spun ⟨side, p, sib⟩ a x b).ids := by
      rw [spun_ids]
      exact (fill_ids ⟨side, p, sib⟩ _).symm
    refine RepC.perm ?_ pids
    cases c with
    | nil => trivial
    | cons f c =>
      have hg' : f.i = g := hg
      have hg0 : g ≠ 0 := fun e => hc.1.1 (hg'.trans e)
      refine RepC.swap hc ncc (fun j hj hne => ?_) ?_
      · rw [cj j hj]
        exact s1j j (fun e => nxc (e ▸ hj)) (by rw [← hg']; exact hne)
      · rw [cj _ (by simp [cids]), hg']
        have hsd : sideF st p = f.side := sideF_of (V := V) p0 (pu.trans hg'.symm) hc.1.2.2.1 hc.1.2.2.2.1 (fun h => npc (by simp [cids, h]))
        unfold rot1
        rw [if_neg hg0, hang_top gx, hsd]
  · have hj' : ¬ (j ∈ (T.node a x false b).ids ++ cids (⟨side, p, sib⟩ :: c)) := fun h => hj (P.mem_iff.2 h)
    rw [show (T.node a x false b).ids = a.ids ++ x :: b.ids from rfl, show cids (⟨side, p, sib⟩ :: c) = p :: (sib.ids ++ cids c) from rfl] at hj'
    simp only [List.mem_append, List.mem_cons, not_or] at hj'
    obtain ⟨⟨j1, j2, j3⟩, j4, j5, j6⟩ := hj'
    rw [fj j j2 j4]
    by_cases hm0 : j = m.root
    · by_cases h : m.root = 0
      · -- place 0
        have jz : j = 0 := by omega
        have jg : g = 0 ∨ j ≠ g := by omega
        rw [hq]
        unfold rot2
        rw [e1, hang_keep j2 j4]
        have : hangF (rot1 st x p g) p side m.root j = rot1 st x p g j := by
          unfold hangF
          rw [if_pos h]
          exact put_ne _ _ j4
        rw [this]
        unfold rot1
        split
        · exact put_ne _ _ j2
        · next hg0 => exact hang_keep (by omega) j2
      · exact (by
          have := hmi _ (mroot h)
          rw [← hm0] at this
          rcases this with h | h
          · exact (j1 h).elim
          · exact (j3 h).elim)
    · rw [qj j j2 j4 hm0]
      unfold rot1
      split
      · exact put_ne _ _ j2
      · next hg0 => exact hang_keep (fun e => j6 (e ▸ hgc hg0)) j2
end Go.Proofs.Ytgichkjomhnehaa
