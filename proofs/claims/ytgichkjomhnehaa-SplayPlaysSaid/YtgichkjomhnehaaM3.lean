/-
  Splay trees, plainly: the way to a node; splaying; the walk through a sequence; the way to a position.
-/
import Derived.Test.YtgichkjomhnehaaM2
set_option linter.unusedVariables false
set_option linter.unusedSimpArgs false
namespace Go.Proofs.Ytgichkjomhnehaa

/-- the nodes from the root to x -/
inductive Path : T → Nat → List Nat → Prop
  | here (l : T) (i : Nat) (f : Bool) (r : T) : Path (.node l i f r) i [i]
  | left {l : T} {i : Nat} {f : Bool} {r : T} {x : Nat} {ps : List Nat} : Path l x ps → Path (.node l i f r) x (i :: ps)
  | right {l : T} {i : Nat} {f : Bool} {r : T} {x : Nat} {ps : List Nat} : Path r x ps → Path (.node l i f r) x (i :: ps)
theorem path_of_mem {x : Nat} : ∀ {t : T}, x ∈ t.ids → ∃ ps, Path t x ps
  | .nil, h => by simp [T.ids] at h
  | .node l i f r, h => by
    simp only [T.ids, List.mem_append, List.mem_cons] at h
    rcases h with h | rfl | h
    · obtain ⟨ps, h⟩ := path_of_mem h
      exact ⟨_, .left h⟩
    · exact ⟨_, .here l x f r⟩
    · obtain ⟨ps, h⟩ := path_of_mem h
      exact ⟨_, .right h⟩
/-- the places from x upwards -/
def UpL (st : Nat → Nd) : Nat → List Nat → Prop
  | x, [] => x = 0
  | x, y :: L => x = y ∧ x ≠ 0 ∧ UpL st (st x).up L
theorem path_up {V : Nat → Int} {st : Nat → Nd} {t : T} {x : Nat} {ps : List Nat} (h : Path t x ps) : ∀ {p : Nat} {L : List Nat}, Rep V st p t → UpL st p L → UpL st x (ps.reverse ++ L) := by
  induction h with
  | here l i f r =>
    intro p L hr hu
    exact ⟨rfl, hr.1.1, by rw [hr.1.2.1]; exact hu⟩
  | left h ih =>
    intro p L hr hu
    rw [List.reverse_cons, List.append_assoc]
    exact ih hr.2.1 ⟨rfl, hr.1.1, by rw [hr.1.2.1]; exact hu⟩
  | right h ih =>
    intro p L hr hu
    rw [List.reverse_cons, List.append_assoc]
    exact ih hr.2.2 ⟨rfl, hr.1.1, by rw [hr.1.2.1]; exact hu⟩
theorem Path.ids {t : T} {x : Nat} {ps : List Nat} (h : Path t x ps) : ∀ j ∈ ps, j ∈ t.ids := by
  induction h with
  | here l i f r => intro j hj; rw [List.mem_singleton.1 hj]; simp [T.ids]
  | left h ih =>
    intro j hj
    simp only [T.ids, List.mem_append, List.mem_cons]
    rcases List.mem_cons.1 hj with rfl | hj
    · exact Or.inr (Or.inl rfl)
    · exact Or.inl (ih j hj)
  | right h ih =>
    intro j hj
    simp only [T.ids, List.mem_append, List.mem_cons]
    rcases List.mem_cons.1 hj with rfl | hj
    · exact Or.inr (Or.inl rfl)
    · exact Or.inr (Or.inr (ih j hj))
theorem Path.len {t : T} {x : Nat} {ps : List Nat} (h : Path t x ps) : ps.length ≤ t.ids.length := by
  induction h with
  | here l i f r => simp [T.ids]; omega
  | left h ih => simp [T.ids]; omega
  | right h ih => simp [T.ids]; omega
theorem Path.ne {t : T} {x : Nat} {ps : List Nat} (h : Path t x ps) : ps ≠ [] := by cases h <;> simp
theorem Path.last {t : T} {x : Nat} {ps : List Nat} (h : Path t x ps) : ps.getLast? = some x := by
  induction h with
  | here l i f r => rfl
  | left h ih => rw [List.getLast?_cons, ih]; rfl
  | right h ih => rw [List.getLast?_cons, ih]; rfl
theorem Path.tog {t : T} {x : Nat} {ps : List Nat} (h : Path t x ps) : Path t.tog x ps := by
  cases h with
  | here l i f r => exact .here _ _ _ _
  | left h => exact .left h
  | right h => exact .right h
theorem Path.pushed {t : T} {x : Nat} {ps : List Nat} (h : Path t x ps) : Path t.pushed x ps := by
  cases h with
  | here l i f r => cases f <;> exact .here _ _ _ _
  | @left l i f r x ps h =>
    cases f
    · exact .left h
    · exact .right h.tog
  | @right l i f r x ps h =>
    cases f
    · exact .right h
    · exact .left h.tog

/-- a whole tree, its sequence and its nodes -/
structure Whole (V : Nat → Int) (st : Nat → Nd) (t : T) (σ ι : List Nat) : Prop where
  rep : Rep V st 0 t
  seq : t.seq = σ
  ids : t.ids.Perm ι
def Going (V : Nat → Int) (st : Nat → Nd) (x : Nat) (ps σ ι : List Nat) : Prop := ∃ c t, Whole V st (plug c t) σ ι ∧ Path t x ps
def Ctx (V : Nat → Int) (st : Nat → Nd) (x : Nat) (c : List Fr) (σ ι : List Nat) : Prop := ∃ l r, Whole V st (plug c (.node l x false r)) σ ι
theorem whole_push {V : Nat → Int} {st : Nat → Nd} {c : List Fr} {t : T} {σ ι : List Nat} (h : Whole V st (plug c t) σ ι) (hn : ι.Nodup) (ht : t.root ≠ 0) : Whole V (pushF st t.root) (plug c t.pushed) σ ι ∧ ∀ k, k ∉ ι → pushF st t.root k = st k := by
  obtain ⟨h1, h2⟩ := push_in h.rep ((nodup_perm h.ids).2 hn) ht
  refine ⟨⟨h1, ?_, ?_⟩, fun k hk => h2 k (fun e => hk (h.ids.mem_iff.1 e))⟩
  · rw [plug_seq, T.pushed_seq, ← plug_seq, h.seq]
  · exact ((plug_ids _ _).trans ((T.pushed_ids t).append_right _)).trans ((plug_ids _ _).symm.trans h.ids)
theorem Path.root {t : T} {x j : Nat} {ps : List Nat} (h : Path t x (j :: ps)) : t.root = j := by
  cases h <;> rfl
theorem Going.pos {V : Nat → Int} {st : Nat → Nd} {x j : Nat} {ps σ ι : List Nat} (h : Going V st x (j :: ps) σ ι) : j ≠ 0 ∧ j ∈ ι := by
  obtain ⟨c, t, hw, hp⟩ := h
  have h1 := (rep_plug.1 hw.rep).1
  have hm := hp.ids j (by simp)
  exact ⟨(h1.pos j hm).1, hw.ids.mem_iff.1 ((plug_ids c t).mem_iff.2 (by simp [hm]))⟩
/-- one push on the way -/
theorem going_step {V : Nat → Int} {st : Nat → Nd} {x j : Nat} {ps σ ι : List Nat} (h : Going V st x (j :: ps) σ ι) (hn : ι.Nodup) :
    (∀ k, k ∉ ι → pushF st j k = st k) ∧ (ps = [] → ∃ c, Ctx V (pushF st j) x c σ ι) ∧ (ps ≠ [] → Going V (pushF st j) x ps σ ι) := by
  have h0 := h.pos
  obtain ⟨c, t, hw, hp⟩ := h
  have hr := hp.root
  obtain ⟨k1, k2⟩ := whole_push hw hn (by rw [hr]; exact h0.1)
  rw [hr] at k1 k2
  have hp2 := hp.pushed
  have hf : ∃ l r, t.pushed = .node l j false r := by
    cases t with
    | nil => exact absurd hr.symm h0.1
    | node l i f r => obtain rfl : i = j := hr; cases f <;> exact ⟨_, _, rfl⟩
  obtain ⟨l, r, e⟩ := hf
  rw [e] at hp2 k1
  refine ⟨k2, fun hps => ?_, fun hps => ?_⟩
  · subst hps
    generalize hu : T.node l j false r = u at *
    cases hp2 with
    | here l' i' f' r' => exact ⟨c, l, r, by rw [hu]; exact k1⟩
    | left h => exact absurd rfl h.ne
    | right h => exact absurd rfl h.ne
  · cases hp2 with
    | here => exact (hps rfl).elim
    | left h => exact ⟨⟨false, j, r⟩ :: c, l, k1, h⟩
    | right h => exact ⟨⟨true, j, l⟩ :: c, r, k1, h⟩

/-! the rotations -/
theorem Ctx.top {V : Nat → Int} {st : Nat → Nd} {x : Nat} {σ ι : List Nat} {c : List Fr} (h : Ctx V st x c σ ι) : (st x).up = par c ∧ x ≠ 0 := by
  obtain ⟨l, r, hw⟩ := h
  have h1 := (rep_plug.1 hw.rep).1
  exact ⟨h1.1.2.1, h1.1.1⟩
theorem Ctx.mem {V : Nat → Int} {st : Nat → Nd} {x : Nat} {σ ι : List Nat} {c : List Fr} (h : Ctx V st x c σ ι) : x ∈ ι ∧ ∀ j ∈ cids c, j ∈ ι := by
  obtain ⟨l, r, hw⟩ := h
  have p := hw.ids.symm.trans (plug_ids c _)
  exact ⟨p.mem_iff.2 (by simp [T.ids]), fun j hj => p.mem_iff.2 (by simp [hj])⟩
theorem Ctx.next {V : Nat → Int} {st : Nat → Nd} {x : Nat} {σ ι : List Nat} {fr : Fr} {c : List Fr} (h : Ctx V st x (fr :: c) σ ι) (hn : ι.Nodup) : fr.i ≠ 0 ∧ (st fr.i).up = par c ∧ sideF st x = fr.side ∧ fr.i ≠ x := by
  have ht := h.top
  obtain ⟨l, r, hw⟩ := h
  obtain ⟨h1, h2⟩ := rep_plug.1 hw.rep
  have hn2 := (nodup_perm (hw.ids.symm.trans (plug_ids (fr :: c) _))).1 hn
  have hd := (List.nodup_append.1 hn2).2.2
  refine ⟨h2.1.1, h2.1.2.1, sideF_of (V := V) ht.2 ht.1 h2.1.2.2.1 h2.1.2.2.2.1 (fun e => hd x (by simp [T.ids]) x (by simp [cids, e]) rfl), fun e => hd x (by simp [T.ids]) fr.i (by simp [cids]) e.symm⟩
theorem Ctx.next2 {V : Nat → Int} {st : Nat → Nd} {x : Nat} {σ ι : List Nat} {fr fr2 : Fr} {c : List Fr} (h : Ctx V st x (fr :: fr2 :: c) σ ι) (hn : ι.Nodup) : sideF st fr.i = fr2.side ∧ Ctx V st fr.i (fr2 :: c) σ ι := by
  have hc : Ctx V st fr.i (fr2 :: c) σ ι := by
    obtain ⟨l, r, hw⟩ := h
    change Whole V st (plug (fr2 :: c) (fill fr _)) σ ι at hw
    unfold fill at hw
    split at hw
    · exact ⟨_, _, hw⟩
    · exact ⟨_, _, hw⟩
  exact ⟨(hc.next hn).2.2.1, hc⟩
/-- x above its parent -/
theorem Ctx.rotate {V : Nat → Int} (hF : Fit V) {st : Nat → Nd} {x : Nat} {σ ι : List Nat} {fr : Fr} {c : List Fr} (h : Ctx V st x (fr :: c) σ ι) (hn : ι.Nodup) : Ctx V (rotateF st x) x c σ ι ∧ (∀ k, k ∉ ι → rotateF st x k = st k) ∧ Over V (midF st x) (st x).up ι ∧ Over V (refreshF (midF st x) (st x).up) x ι := by
  obtain ⟨l, r, hw⟩ := h
  obtain ⟨h1, h2, o1, o2⟩ := rotate_law hF hw.rep ((nodup_perm hw.ids).2 hn)
  have hseq : (plug c (spun fr l x r)).seq = σ := by
    rw [← hw.seq]
    show _ = (plug c (fill fr _)).seq
    rw [plug_seq, plug_seq, spun_seq]
  have hids : (plug c (spun fr l x r)).ids.Perm ι := by
    refine List.Perm.trans ?_ hw.ids
    show List.Perm _ (plug c (fill fr _)).ids
    refine (plug_ids _ _).trans (List.Perm.trans ?_ (plug_ids _ _).symm)
    rw [spun_ids]
  refine ⟨?_, fun k hk => h2 k (fun e => hk (hw.ids.mem_iff.1 e)), o1.perm hw.ids, o2.perm hw.ids⟩
  unfold spun at h1 hseq hids
  split at h1
  · rw [if_pos (by assumption)] at hseq hids
    exact ⟨_, _, h1, hseq, hids⟩
  · rw [if_neg (by assumption)] at hseq hids
    exact ⟨_, _, h1, hseq, hids⟩
/-- the parent above its own, both on one side -/
theorem Ctx.rotate_up {V : Nat → Int} (hF : Fit V) {st : Nat → Nd} {x : Nat} {σ ι : List Nat} {fr fr2 : Fr} {c : List Fr} (h : Ctx V st x (fr :: fr2 :: c) σ ι) (hn : ι.Nodup) (hs : fr.side = fr2.side) : ∃ fr', Ctx V (rotateF st fr.i) x (fr' :: c) σ ι := by
  obtain ⟨l, r, hw⟩ := h
  obtain ⟨side, p, sib⟩ := fr
  obtain ⟨side2, g, sib2⟩ := fr2
  dsimp only at *
  subst hs
  cases side with
  | false =>
    have hw' : Whole V st (plug (⟨false, g, sib2⟩ :: c) (.node (.node l x false r) p false sib)) σ ι := hw
    obtain ⟨h1, h2, _⟩ := rotate_law hF hw'.rep ((nodup_perm hw'.ids).2 hn)
    refine ⟨⟨false, p, .node sib g false sib2⟩, l, r, h1, ?_, ?_⟩
    · rw [← hw'.seq]
      show (plug c (spun ⟨false, g, sib2⟩ (.node l x false r) p sib)).seq = (plug c (fill ⟨false, g, sib2⟩ _)).seq
      rw [plug_seq, plug_seq, spun_seq]
    · refine List.Perm.trans ?_ hw'.ids
      show List.Perm (plug c (spun ⟨false, g, sib2⟩ (.node l x false r) p sib)).ids (plug c (fill ⟨false, g, sib2⟩ _)).ids
      refine (plug_ids _ _).trans (List.Perm.trans ?_ (plug_ids _ _).symm)
      rw [spun_ids]
  | true =>
    have hw' : Whole V st (plug (⟨true, g, sib2⟩ :: c) (.node sib p false (.node l x false r))) σ ι := hw
    obtain ⟨h1, h2, _⟩ := rotate_law hF hw'.rep ((nodup_perm hw'.ids).2 hn)
    refine ⟨⟨true, p, .node sib2 g false sib⟩, l, r, h1, ?_, ?_⟩
    · rw [← hw'.seq]
      show (plug c (spun ⟨true, g, sib2⟩ sib p (.node l x false r))).seq = (plug c (fill ⟨true, g, sib2⟩ _)).seq
      rw [plug_seq, plug_seq, spun_seq]
    · refine List.Perm.trans ?_ hw'.ids
      show List.Perm (plug c (spun ⟨true, g, sib2⟩ sib p (.node l x false r))).ids (plug c (fill ⟨true, g, sib2⟩ _)).ids
      refine (plug_ids _ _).trans (List.Perm.trans ?_ (plug_ids _ _).symm)
      rw [spun_ids]

/-! the walk through a sequence -/
def opn : List Fr → List Nat
  | [] => []
  | fr :: c => opn c ++ if fr.side = true then [] else [fr.i]
theorem opn_len : ∀ c : List Fr, (opn c).length ≤ (rs c).length
  | [] => Nat.le_refl _
  | fr :: c => by
    have := opn_len c
    unfold opn rs
    split <;> simp <;> omega
theorem opn_nil : ∀ {c : List Fr}, opn c = [] → rs c = []
  | [], _ => rfl
  | fr :: c, h => by
    unfold opn at h
    obtain ⟨h1, h2⟩ := List.append_eq_nil_iff.1 h
    unfold rs
    split at h2
    · rw [if_pos (by assumption), opn_nil h1]; rfl
    · cases h2
theorem opn_pop : ∀ {c : List Fr} {t : T} {o : List Nat} {j : Nat}, opn c = o ++ [j] → ∃ c' r u, plug c t = plug (⟨true, j, u⟩ :: c') r ∧ opn c' = o ∧ dn c' ++ u.seq ++ [j] = dn c ++ t.seq ++ [j]
  | [], t, o, j, h => by cases o <;> cases h
  | ⟨side, i, sib⟩ :: c, t, o, j, h => by
    unfold opn at h
    cases side with
    | false =>
      rw [if_neg (by exact Bool.false_ne_true)] at h
      obtain ⟨h1, h2⟩ := List.append_inj' h rfl
      cases h2
      exact ⟨c, sib, t, rfl, h1, by simp [dn]⟩
    | true =>
      rw [if_pos rfl, List.append_nil] at h
      obtain ⟨c', r, u, e, eo, ed⟩ := opn_pop (t := .node sib i false t) h
      refine ⟨c', r, u, e, eo, ?_⟩
      rw [ed]
      simp [dn, T.seq]
def Trav (V : Nat → Int) (st : Nat → Nd) (cur : Nat) (op ls σ ι : List Nat) : Prop := ∃ c t, Whole V st (plug c t) σ ι ∧ t.root = cur ∧ opn c = op ∧ dn c = ls
theorem Trav.start {V : Nat → Int} {st : Nat → Nd} {t : T} {σ ι : List Nat} (h : Whole V st t σ ι) : Trav V st t.root [] [] σ ι := ⟨[], t, h, rfl, rfl, rfl⟩
theorem Trav.len {V : Nat → Int} {st : Nat → Nd} {cur : Nat} {op ls σ ι : List Nat} (h : Trav V st cur op ls σ ι) : ls.length + op.length ≤ σ.length ∧ (cur ≠ 0 → ls.length + op.length < σ.length) ∧ (∀ j ∈ op, j ∈ ι ∧ j ≠ 0) ∧ (cur ≠ 0 → cur ∈ ι) := by
  obtain ⟨c, t, hw, rfl, rfl, rfl⟩ := h
  have h1 := opn_len c
  have h2 := hw.seq
  rw [plug_seq] at h2
  have h3 : (dn c).length + t.seq.length + (rs c).length = σ.length := by rw [← h2]; simp; omega
  have hrc := rep_plug.1 hw.rep
  have hsub : ∀ c : List Fr, ∀ j ∈ opn c, j ∈ cids c := by
    intro c
    induction c with
    | nil => intro j hj; cases hj
    | cons fr c ih =>
      intro j hj
      unfold opn at hj
      rcases List.mem_append.1 hj with hj | hj
      · simp [cids, ih j hj]
      · split at hj
        · cases hj
        · simp [cids, List.mem_singleton.1 hj]
  have hp := hw.ids.symm.trans (plug_ids c t)
  refine ⟨by omega, fun hc => ?_, fun j hj => ⟨hp.mem_iff.2 (by simp [hsub c j hj]), ?_⟩, fun hc => hp.mem_iff.2 (by simp [root_ids hc])⟩
  · have : 0 < t.seq.length := by
      rw [(T.seq_perm t).length_eq]
      exact List.length_pos_of_mem (root_ids hc)
    omega
  · have := (hw.rep.pos j (hw.ids.mem_iff.2 (hp.mem_iff.2 (by simp [hsub c j hj])))).1
    exact this
theorem Trav.down {V : Nat → Int} {st : Nat → Nd} {cur : Nat} {op ls σ ι : List Nat} (h : Trav V st cur op ls σ ι) (hn : ι.Nodup) (hc : cur ≠ 0) : Trav V (pushF st cur) (pushF st cur cur).k0 (op ++ [cur]) ls σ ι ∧ ∀ k, k ∉ ι → pushF st cur k = st k := by
  obtain ⟨c, t, hw, rfl, rfl, rfl⟩ := h
  obtain ⟨k1, k2⟩ := whole_push hw hn hc
  refine ⟨?_, k2⟩
  have hf : ∃ l r, t.pushed = .node l t.root false r := by
    cases t with
    | nil => exact (hc rfl).elim
    | node l i f r => cases f <;> exact ⟨_, _, rfl⟩
  obtain ⟨l, r, e⟩ := hf
  rw [e] at k1
  have h1 := (rep_plug.1 k1.rep).1
  exact ⟨⟨false, t.root, r⟩ :: c, l, k1, h1.1.2.2.1.symm, by simp [opn], by simp [dn]⟩
theorem Trav.up {V : Nat → Int} {st : Nat → Nd} {j : Nat} {op ls σ ι : List Nat} (h : Trav V st 0 (op ++ [j]) ls σ ι) : Trav V st (st j).k1 op (ls ++ [j]) σ ι := by
  obtain ⟨c, t, hw, ht, ho, rfl⟩ := h
  have hr := (rep_plug.1 hw.rep).1
  obtain rfl := hr.root_zero.1 ht
  obtain ⟨c', r, u, e, eo, ed⟩ := opn_pop (t := .nil) ho
  rw [e] at hw
  have h2 := (rep_plug.1 hw.rep).2
  refine ⟨⟨true, j, u⟩ :: c', r, hw, ?_, by simp [opn, eo], ?_⟩
  · exact h2.1.2.2.1.symm
  · simp only [T.seq, List.append_nil] at ed
    rw [← ed]
    simp [dn]
theorem Trav.done {V : Nat → Int} {st : Nat → Nd} {ls σ ι : List Nat} (h : Trav V st 0 [] ls σ ι) : ls = σ ∧ ∃ t, Whole V st t σ ι := by
  obtain ⟨c, t, hw, ht, ho, rfl⟩ := h
  have hr := (rep_plug.1 hw.rep).1
  obtain rfl := hr.root_zero.1 ht
  refine ⟨?_, _, hw⟩
  rw [← hw.seq, plug_seq, opn_nil ho]
  simp [T.seq]
theorem Trav.whole {V : Nat → Int} {st : Nat → Nd} {cur : Nat} {op ls σ ι : List Nat} (h : Trav V st cur op ls σ ι) : ∃ t, Whole V st t σ ι := by
  obtain ⟨c, t, hw, _⟩ := h
  exact ⟨_, hw⟩

/-! the way to a position -/
/-- the place y is the one at k below the place cur; m bounds what lies there -/
def Seek (V : Nat → Int) (st : Nat → Nd) (cur k m : Nat) (y : Nat) (σ ι : List Nat) : Prop := ∃ c t, Whole V st (plug c t) σ ι ∧ t.root = cur ∧ k < t.ids.length ∧ t.ids.length = m ∧ σ[(dn c).length + k]? = some y
theorem Seek.start {V : Nat → Int} {st : Nat → Nd} {t : T} {k y : Nat} {σ ι : List Nat} (h : Whole V st t σ ι) (hy : σ[k]? = some y) : Seek V st t.root k t.ids.length y σ ι := by
  refine ⟨[], t, h, rfl, ?_, rfl, by simpa [dn] using hy⟩
  rw [← (T.seq_perm t).length_eq, h.seq]
  exact (List.getElem?_eq_some_iff.1 hy).1
theorem Seek.pos {V : Nat → Int} {st : Nat → Nd} {cur k m y : Nat} {σ ι : List Nat} (h : Seek V st cur k m y σ ι) : cur ≠ 0 ∧ cur ∈ ι ∧ k < m := by
  obtain ⟨c, t, hw, rfl, hk, rfl, _⟩ := h
  have hr := (rep_plug.1 hw.rep).1
  have h0 : t.root ≠ 0 := fun e => by rw [T.ids_nil hr e] at hk; simp at hk
  exact ⟨h0, hw.ids.mem_iff.1 ((plug_ids c t).mem_iff.2 (by simp [root_ids h0])), hk⟩
theorem kid_size {V : Nat → Int} {st : Nat → Nd} {t : T} {p : Nat} (h : Rep V st p t) (hz : (st 0).size = 0) : (st t.root).size = t.ids.length := by
  by_cases h0 : t.root = 0
  · rw [T.ids_nil h h0, h0, hz]; rfl
  · exact (h.agg h0).size
theorem Seek.step {V : Nat → Int} {st : Nat → Nd} {cur k m y : Nat} {σ ι : List Nat} (h : Seek V st cur k m y σ ι) (hn : ι.Nodup) (h0 : 0 ∉ ι) (hz : (st 0).size = 0) :
    (∀ j, j ∉ ι → pushF st cur j = st j) ∧
    (k = (pushF st cur (pushF st cur cur).k0).size → y = cur ∧ ∃ c, Ctx V (pushF st cur) cur c σ ι) ∧
    (k < (pushF st cur (pushF st cur cur).k0).size → ∃ m', m' < m ∧ Seek V (pushF st cur) (pushF st cur cur).k0 k m' y σ ι) ∧
    ((pushF st cur (pushF st cur cur).k0).size < k → ∃ m', m' < m ∧ Seek V (pushF st cur) (pushF st cur cur).k1 (k - ((pushF st cur (pushF st cur cur).k0).size + 1)) m' y σ ι) ∧ (pushF st cur (pushF st cur cur).k0).size ≤ m ∧ ((pushF st cur cur).k0 ≠ 0 → (pushF st cur cur).k0 ∈ ι) := by
  have hp := h.pos
  obtain ⟨c, t, hw, rfl, hk, rfl, hy⟩ := h
  obtain ⟨k1, k2⟩ := whole_push hw hn hp.1
  have hlen := (T.pushed_ids t).length_eq
  have hf : ∃ l r, t.pushed = .node l t.root false r := by
    cases t with
    | nil => exact (hp.1 rfl).elim
    | node l i f r => cases f <;> exact ⟨_, _, rfl⟩
  obtain ⟨l, r, e⟩ := hf
  rw [e] at k1 hlen
  generalize t.root = x at *
  generalize pushF st x = st' at *
  obtain ⟨h1, hl, hr⟩ := (rep_plug.1 k1.rep).1
  have hz' : (st' 0).size = 0 := by rw [k2 0 h0]; exact hz
  have hs := kid_size hl hz'
  have hsq := k1.seq
  rw [plug_seq] at hsq
  have hlq := (T.seq_perm l).length_eq
  have hrq := (T.seq_perm r).length_eq
  have hL : l.ids.length + 1 + r.ids.length = t.ids.length := by rw [← hlen]; simp [T.ids]; omega
  rw [h1.2.2.1, hs]
  refine ⟨k2, fun hk1 => ⟨?_, c, l, r, k1⟩, fun hk1 => ⟨l.ids.length, by omega, ⟨false, x, r⟩ :: c, l, k1, rfl, hk1, rfl, by simpa [dn] using hy⟩, fun hk1 => ⟨r.ids.length, by omega, ⟨true, x, l⟩ :: c, r, k1, ?_, by omega, rfl, ?_⟩, by omega, fun hne => k1.ids.mem_iff.1 ((plug_ids _ _).mem_iff.2 (by simp [T.ids, root_ids hne]))⟩
  · rw [← hsq] at hy
    have : (dn c ++ (T.node l x false r).seq ++ rs c)[(dn c).length + k]? = some x := by
      rw [List.append_assoc, List.getElem?_append_right (by omega), Nat.add_sub_cancel_left]
      show ((l.seq ++ x :: r.seq) ++ rs c)[k]? = some x
      rw [List.append_assoc, List.getElem?_append_right (by omega), hlq, hk1, Nat.sub_self]
      rfl
    rw [this] at hy
    exact (Option.some.inj hy).symm
  · exact h1.2.2.2.1.symm
  · rw [← hy]
    congr 1
    simp [dn, hlq]
    omega
end Go.Proofs.Ytgichkjomhnehaa
