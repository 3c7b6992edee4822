/-
  Splay trees, plainly: trees with pending reversals, how they lie in an array of nodes, and what a refresh, a push and a rotation do.
-/
set_option linter.unusedVariables false
set_option linter.unusedSimpArgs false
namespace Go.Proofs.Ytgichkjomhnehaa

structure Nd where
  k0 : Nat
  k1 : Nat
  up : Nat
  flip : Bool
  v : Int
  size : Nat
  first : Nat
  s0 : Nat
  s1 : Nat

inductive T where
  | nil
  | node (l : T) (i : Nat) (f : Bool) (r : T)

def T.root : T → Nat
  | .nil => 0
  | .node _ i _ _ => i
def T.ids : T → List Nat
  | .nil => []
  | .node l i _ r => l.ids ++ i :: r.ids
def T.seq : T → List Nat
  | .nil => []
  | .node l i f r => if f = true then (l.seq ++ i :: r.seq).reverse else l.seq ++ i :: r.seq

theorem T.seq_perm : ∀ t : T, t.seq.Perm t.ids
  | .nil => List.Perm.refl _
  | .node l i f r => by
    have h : (l.seq ++ i :: r.seq).Perm (l.ids ++ i :: r.ids) := (seq_perm l).append ((seq_perm r).cons i)
    unfold seq ids
    split
    · exact (List.reverse_perm _).trans h
    · exact h

/-! what is kept of a subtree -/
def bef (V : Nat → Int) (i j : Nat) : Bool := decide (V i < V j ∨ (V i = V j ∧ i < j))
theorem bef_congr {V W : Nat → Int} {a b : Nat} (h1 : V a = W a) (h2 : V b = W b) : bef V a b = bef W a b := by
  unfold bef
  rw [decide_eq_decide, h1, h2]
def Mn (V : Nat → Int) (l : List Nat) (m : Nat) : Prop := m ∈ l ∧ ∀ x ∈ l, x = m ∨ bef V m x = true
def tot (V : Nat → Int) (l : List Nat) : Int := (l.map V).sum
structure Agg (V : Nat → Int) (nd : Nd) (l : List Nat) : Prop where
  size : nd.size = l.length
  first : Mn V l nd.first
  sum : ((nd.s0 * 18446744073709551616 + nd.s1 : Nat) : Int) = tot V l % 340282366920938463463374607431768211456
  h0 : nd.s0 < 18446744073709551616
  h1 : nd.s1 < 18446744073709551616
theorem Mn.perm {V : Nat → Int} {l l' : List Nat} {m : Nat} (h : Mn V l m) (p : l.Perm l') : Mn V l' m := ⟨p.mem_iff.1 h.1, fun x hx => h.2 x (p.mem_iff.2 hx)⟩
theorem sum_perm {l l' : List Int} (p : l.Perm l') : l.sum = l'.sum := by
  induction p with
  | nil => rfl
  | cons x _ ih => simp [ih]
  | swap x y l => simp; omega
  | trans _ _ h1 h2 => exact h1.trans h2
theorem tot_perm {V : Nat → Int} {l l' : List Nat} (p : l.Perm l') : tot V l = tot V l' := sum_perm (p.map V)
theorem tot_append (V : Nat → Int) (l l' : List Nat) : tot V (l ++ l') = tot V l + tot V l' := by simp [tot]
theorem tot_cons (V : Nat → Int) (x : Nat) (l : List Nat) : tot V (x :: l) = V x + tot V l := by simp [tot]
theorem tot_congr {V V' : Nat → Int} {l : List Nat} (h : ∀ x ∈ l, V x = V' x) : tot V l = tot V' l := by
  unfold tot
  rw [List.map_congr_left h]
theorem Agg.perm {V : Nat → Int} {nd : Nd} {l l' : List Nat} (h : Agg V nd l) (p : l.Perm l') : Agg V nd l' :=
  ⟨h.size.trans p.length_eq, h.first.perm p, h.sum.trans (by rw [tot_perm p]), h.h0, h.h1⟩
theorem Mn.congr {V V' : Nat → Int} {l : List Nat} {m : Nat} (h : Mn V l m) (e : ∀ x ∈ l, V x = V' x) : Mn V' l m :=
  ⟨h.1, fun x hx => (h.2 x hx).imp id fun k => by unfold bef at *; rw [← e m h.1, ← e x hx]; exact k⟩
theorem Agg.congrV {V V' : Nat → Int} {nd : Nd} {l : List Nat} (h : Agg V nd l) (e : ∀ x ∈ l, V x = V' x) : Agg V' nd l :=
  ⟨h.size, h.first.congr e, by rw [h.sum, tot_congr e], h.h0, h.h1⟩
theorem Agg.congr {V : Nat → Int} {nd nd' : Nd} {l : List Nat} (h : Agg V nd l) (h1 : nd'.size = nd.size) (h2 : nd'.first = nd.first) (h3 : nd'.s0 = nd.s0) (h4 : nd'.s1 = nd.s1) : Agg V nd' l :=
  ⟨by rw [h1]; exact h.size, by rw [h2]; exact h.first, by rw [h3, h4]; exact h.sum, by rw [h3]; exact h.h0, by rw [h4]; exact h.h1⟩
theorem Mn.unique {V : Nat → Int} {l : List Nat} {m m' : Nat} (h : Mn V l m) (h' : Mn V l m') : m = m' := by
  rcases h.2 m' h'.1 with e | e
  · exact e.symm
  · rcases h'.2 m h.1 with e' | e'
    · exact e'
    · unfold bef at e e'
      have := of_decide_eq_true e
      have := of_decide_eq_true e'
      omega
theorem bef_trans {V : Nat → Int} {a b c : Nat} (h : bef V a b = true) (h' : bef V b c = true) : bef V a c = true := by
  unfold bef at *
  have := of_decide_eq_true h
  have := of_decide_eq_true h'
  exact decide_eq_true (by omega)
theorem bef_total {V : Nat → Int} {a b : Nat} (h : bef V a b = false) : b = a ∨ bef V b a = true := by
  unfold bef at *
  have := of_decide_eq_false h
  by_cases e : b = a
  · exact Or.inl e
  · exact Or.inr (decide_eq_true (by omega))
theorem Mn.join {V : Nat → Int} {l l' : List Nat} {m m' : Nat} (h : Mn V l m) (h' : Mn V l' m') : Mn V (l ++ l') (if bef V m' m = true then m' else m) := by
  by_cases hb : bef V m' m = true
  · rw [if_pos hb]
    refine ⟨List.mem_append_right _ h'.1, fun x hx => ?_⟩
    rcases List.mem_append.1 hx with hx | hx
    · rcases h.2 x hx with rfl | e
      · exact Or.inr hb
      · exact Or.inr (bef_trans hb e)
    · exact h'.2 x hx
  · rw [if_neg hb]
    refine ⟨List.mem_append_left _ h.1, fun x hx => ?_⟩
    have hb := bef_total (Bool.eq_false_iff.2 hb)
    rcases List.mem_append.1 hx with hx | hx
    · exact h.2 x hx
    · rcases h'.2 x hx with rfl | e
      · exact hb.imp Eq.symm id
      · rcases hb with rfl | hb
        · exact Or.inr e
        · exact Or.inr (bef_trans hb e)

/-! the state of the array -/
def put (st : Nat → Nd) (i : Nat) (nd : Nd) : Nat → Nd := fun j => if j = i then nd else st j
theorem put_at (st : Nat → Nd) (i : Nat) (nd : Nd) : put st i nd i = nd := by simp [put]
theorem put_ne (st : Nat → Nd) {i j : Nat} (nd : Nd) (h : j ≠ i) : put st i nd j = st j := by simp [put, h]
def kid (nd : Nd) (side : Bool) : Nat := if side = true then nd.k1 else nd.k0
def setK (nd : Nd) (side : Bool) (k : Nat) : Nd := if side = true then { nd with k1 := k } else { nd with k0 := k }
def hiV (v : Int) : Nat := if v < 0 then 18446744073709551615 else 0
def loV (v : Int) : Nat := (v % 18446744073709551616).toNat
/-- a kid more -/
def addK (st : Nat → Nd) (a : Nd) (k : Nat) : Nd :=
  if k = 0 then a else { a with size := a.size + (st k).size, first := if bef (fun j => (st j).v) (st k).first a.first = true then (st k).first else a.first, s1 := (a.s1 + (st k).s1 + 0) % 18446744073709551616, s0 := (a.s0 + (st k).s0 + (a.s1 + (st k).s1 + 0) / 18446744073709551616) % 18446744073709551616 }
def ref0 (st : Nat → Nd) (i : Nat) : Nd := { st i with size := 1, first := i, s0 := hiV (st i).v, s1 := loV (st i).v }
def refreshN (st : Nat → Nd) (i : Nat) : Nd := addK st (addK st (ref0 st i) (st i).k0) (st i).k1
def refreshF (st : Nat → Nd) (i : Nat) : Nat → Nd := put st i (refreshN st i)
theorem addK_keep (st : Nat → Nd) (a : Nd) (k : Nat) : (addK st a k).k0 = a.k0 ∧ (addK st a k).k1 = a.k1 ∧ (addK st a k).up = a.up ∧ (addK st a k).flip = a.flip ∧ (addK st a k).v = a.v := by
  unfold addK
  split <;> exact ⟨rfl, rfl, rfl, rfl, rfl⟩
theorem refreshN_keep (st : Nat → Nd) (i : Nat) : (refreshN st i).k0 = (st i).k0 ∧ (refreshN st i).k1 = (st i).k1 ∧ (refreshN st i).up = (st i).up ∧ (refreshN st i).flip = (st i).flip ∧ (refreshN st i).v = (st i).v := by
  unfold refreshN
  have h1 := addK_keep st (addK st (ref0 st i) (st i).k0) (st i).k1
  have h2 := addK_keep st (ref0 st i) (st i).k0
  exact ⟨h1.1.trans h2.1, h1.2.1.trans h2.2.1, h1.2.2.1.trans h2.2.2.1, h1.2.2.2.1.trans h2.2.2.2.1, h1.2.2.2.2.trans h2.2.2.2.2⟩
theorem agg_one (V : Nat → Int) (st : Nat → Nd) (i : Nat) (h : (st i).v = V i) (hv : -9223372036854775808 ≤ V i ∧ V i ≤ 9223372036854775807) : Agg V (ref0 st i) [i] where
  size := rfl
  first := ⟨List.mem_singleton.2 rfl, fun x hx => Or.inl (List.mem_singleton.1 hx)⟩
  sum := by
    show ((hiV (st i).v * 18446744073709551616 + loV (st i).v : Nat) : Int) = _
    rw [h]
    unfold tot hiV loV
    simp only [List.map_cons, List.map_nil, List.sum_cons, List.sum_nil]
    split <;> omega
  h0 := by
    show hiV (st i).v < _
    unfold hiV
    split <;> omega
  h1 := by
    show loV (st i).v < _
    unfold loV
    omega
theorem agg_add {V : Nat → Int} {st : Nat → Nd} {a : Nd} {l l' : List Nat} {k : Nat} (h : Agg V a l) (hk : k ≠ 0) (h' : Agg V (st k) l') (hv : ∀ x, x ∈ l ∨ x ∈ l' → (st x).v = V x) : Agg V (addK st a k) (l ++ l') := by
  unfold addK
  rw [if_neg hk]
  refine ⟨by simp [h.size, h'.size], ?_, ?_, Nat.mod_lt _ (by omega), Nat.mod_lt _ (by omega)⟩
  · have := h.first.join h'.first
    have e : bef (fun j => (st j).v) (st k).first a.first = bef V (st k).first a.first := bef_congr (hv _ (Or.inr h'.first.1)) (hv _ (Or.inl h.first.1))
    rw [← e] at this
    exact this
  · show (((a.s0 + (st k).s0 + (a.s1 + (st k).s1 + 0) / 18446744073709551616) % 18446744073709551616 * 18446744073709551616 + (a.s1 + (st k).s1 + 0) % 18446744073709551616 : Nat) : Int) = _
    rw [tot_append, Int.add_emod, ← h.sum, ← h'.sum]
    have h0 := h.h0
    have h1 := h.h1
    have g0 := h'.h0
    have g1 := h'.h1
    generalize a.s0 = a0 at *
    generalize a.s1 = a1 at *
    generalize (st k).s0 = b0 at *
    generalize (st k).s1 = b1 at *
    omega

/-! trees in the array -/
def Rep (V : Nat → Int) (st : Nat → Nd) : Nat → T → Prop
  | _, .nil => True
  | p, .node l i f r => (i ≠ 0 ∧ (st i).up = p ∧ (st i).k0 = l.root ∧ (st i).k1 = r.root ∧ (st i).flip = f ∧ (st i).v = V i ∧ Agg V (st i) (l.ids ++ i :: r.ids)) ∧ Rep V st i l ∧ Rep V st i r
theorem Rep.congr {V : Nat → Int} {st st' : Nat → Nd} : ∀ {t : T} {p : Nat}, Rep V st p t → (∀ j ∈ t.ids, st' j = st j) → Rep V st' p t
  | .nil, _, _, _ => trivial
  | .node l i f r, p, ⟨h, hl, hr⟩, e => by
    refine ⟨?_, hl.congr fun j hj => e j (by simp [T.ids, hj]), hr.congr fun j hj => e j (by simp [T.ids, hj])⟩
    rw [e i (by simp [T.ids])]
    exact h
theorem Rep.pos {V : Nat → Int} {st : Nat → Nd} : ∀ {t : T} {p : Nat}, Rep V st p t → ∀ j ∈ t.ids, j ≠ 0 ∧ (st j).v = V j
  | .nil, _, _, j, hj => by simp [T.ids] at hj
  | .node l i f r, p, ⟨h, hl, hr⟩, j, hj => by
    simp only [T.ids, List.mem_append, List.mem_cons] at hj
    rcases hj with hj | rfl | hj
    · exact hl.pos j hj
    · exact ⟨h.1, h.2.2.2.2.2.1⟩
    · exact hr.pos j hj
theorem T.root_mem : ∀ {t : T}, t ≠ .nil → t.root ∈ t.ids
  | .nil, h => (h rfl).elim
  | .node l i f r, _ => by simp [T.ids, T.root]
theorem Rep.root_zero {V : Nat → Int} {st : Nat → Nd} {t : T} {p : Nat} (h : Rep V st p t) : t.root = 0 ↔ t = .nil := by
  cases t with
  | nil => simp [T.root]
  | node l i f r => simp [T.root]; exact h.1.1
/-- another parent -/
theorem Rep.setUp {V : Nat → Int} {st st' : Nat → Nd} {t : T} {p p' : Nat} (h : Rep V st p t) (hn : t.ids.Nodup) (h1 : ∀ j ∈ t.ids, j ≠ t.root → st' j = st j) (h2 : t.root ≠ 0 → st' t.root = { st t.root with up := p' }) : Rep V st' p' t := by
  cases t with
  | nil => trivial
  | node l i f r =>
    obtain ⟨h, hl, hr⟩ := h
    have hr0 := h2 h.1
    simp only [T.root] at hr0 h1
    unfold T.ids at hn
    have hn' := List.nodup_append.1 hn
    have hi := List.nodup_cons.1 hn'.2.1
    refine ⟨?_, hl.congr fun j hj => h1 j (by simp [T.ids, hj]) (fun e => hn'.2.2 j hj i (by simp) e), hr.congr fun j hj => h1 j (by simp [T.ids, hj]) (fun e => hi.1 (e ▸ hj))⟩
    rw [hr0]
    exact ⟨h.1, rfl, h.2.2.1, h.2.2.2.1, h.2.2.2.2.1, h.2.2.2.2.2.1, h.2.2.2.2.2.2.congr rfl rfl rfl rfl⟩
def T.tog : T → T
  | .nil => .nil
  | .node l i f r => .node l i (!f) r
theorem T.tog_root (t : T) : t.tog.root = t.root := by cases t <;> rfl
theorem T.tog_ids (t : T) : t.tog.ids = t.ids := by cases t <;> rfl
theorem T.tog_seq (t : T) : t.tog.seq = t.seq.reverse := by
  cases t with
  | nil => rfl
  | node l i f r => cases f <;> simp [tog, seq]
/-- the order turned round -/
theorem Rep.toggle {V : Nat → Int} {st st' : Nat → Nd} {t : T} {p : Nat} (h : Rep V st p t) (hn : t.ids.Nodup) (h1 : ∀ j ∈ t.ids, j ≠ t.root → st' j = st j) (h2 : t.root ≠ 0 → st' t.root = { st t.root with flip := !(st t.root).flip }) : Rep V st' p t.tog := by
  cases t with
  | nil => trivial
  | node l i f r =>
    obtain ⟨h, hl, hr⟩ := h
    have hr0 := h2 h.1
    simp only [T.root] at hr0 h1
    unfold T.ids at hn
    have hn' := List.nodup_append.1 hn
    have hi := List.nodup_cons.1 hn'.2.1
    refine ⟨?_, hl.congr fun j hj => h1 j (by simp [T.ids, hj]) (fun e => hn'.2.2 j hj i (by simp) e), hr.congr fun j hj => h1 j (by simp [T.ids, hj]) (fun e => hi.1 (e ▸ hj))⟩
    rw [hr0]
    exact ⟨h.1, h.2.1, h.2.2.1, h.2.2.2.1, by show (!(st i).flip) = !f; rw [h.2.2.2.2.1], h.2.2.2.2.2.1, h.2.2.2.2.2.2.congr rfl rfl rfl rfl⟩
def Fit (V : Nat → Int) : Prop := ∀ i, -9223372036854775808 ≤ V i ∧ V i ≤ 9223372036854775807
theorem Rep.agg {V : Nat → Int} {st : Nat → Nd} {t : T} {p : Nat} (h : Rep V st p t) (hr : t.root ≠ 0) : Agg V (st t.root) t.ids := by
  cases t with
  | nil => exact (hr rfl).elim
  | node l i f r => exact h.1.2.2.2.2.2.2
theorem T.ids_nil {t : T} {V : Nat → Int} {st : Nat → Nd} {p : Nat} (h : Rep V st p t) (hr : t.root = 0) : t.ids = [] := by
  rw [h.root_zero.1 hr]
  rfl
theorem agg_kid {V : Nat → Int} {st : Nat → Nd} {a : Nd} {l : List Nat} {t : T} {p : Nat} (h : Agg V a l) (ht : Rep V st p t) (hv : ∀ x ∈ l, (st x).v = V x) : Agg V (addK st a t.root) (l ++ t.ids) := by
  by_cases h0 : t.root = 0
  · rw [T.ids_nil ht h0, List.append_nil, h0]
    exact h
  · exact agg_add h h0 (ht.agg h0) (fun x hx => by
      rcases hx with hx | hx
      · exact hv x hx
      · exact (ht.pos x hx).2)
/-- a refreshed node over two subtrees -/
theorem node_refresh {V : Nat → Int} (hF : Fit V) {st : Nat → Nd} {i : Nat} {l r : T} (hl : Rep V st i l) (hr : Rep V st i r) (h0 : i ≠ 0) (e0 : (st i).k0 = l.root) (e1 : (st i).k1 = r.root) (ev : (st i).v = V i) (n0 : i ∉ l.ids) (n1 : i ∉ r.ids) :
    Rep V (refreshF st i) (st i).up (.node l i (st i).flip r) := by
  have k := refreshN_keep st i
  have hf : refreshF st i i = refreshN st i := put_at _ _ _
  refine ⟨?_, hl.congr fun j hj => put_ne _ _ (fun e => n0 (e ▸ hj)), hr.congr fun j hj => put_ne _ _ (fun e => n1 (e ▸ hj))⟩
  rw [hf]
  refine ⟨h0, k.2.2.1, k.1.trans e0, k.2.1.trans e1, k.2.2.2.1, k.2.2.2.2.trans ev, ?_⟩
  have a0 := agg_one V st i ev (hF i)
  have a1 := agg_kid a0 hl (fun x hx => by rw [List.mem_singleton.1 hx]; exact ev)
  have a2 := agg_kid a1 hr (fun x hx => by
    rcases List.mem_append.1 hx with hx | hx
    · rw [List.mem_singleton.1 hx]; exact ev
    · exact (hl.pos x hx).2)
  unfold refreshN
  rw [e0, e1]
  refine a2.perm ?_
  rw [List.append_assoc]
  show (i :: (l.ids ++ r.ids)).Perm _
  exact List.perm_middle.symm

/-! contexts -/
structure Fr where
  side : Bool
  i : Nat
  sib : T
def fill (fr : Fr) (t : T) : T := if fr.side = true then .node fr.sib fr.i false t else .node t fr.i false fr.sib
def plug : List Fr → T → T
  | [], t => t
  | fr :: c, t => plug c (fill fr t)
def par : List Fr → Nat
  | [] => 0
  | fr :: _ => fr.i
def cids : List Fr → List Nat
  | [] => []
  | fr :: c => fr.i :: (fr.sib.ids ++ cids c)
def dn : List Fr → List Nat
  | [] => []
  | fr :: c => dn c ++ if fr.side = true then fr.sib.seq ++ [fr.i] else []
def rs : List Fr → List Nat
  | [] => []
  | fr :: c => (if fr.side = true then [] else fr.i :: fr.sib.seq) ++ rs c
theorem fill_root (fr : Fr) (t : T) : (fill fr t).root = fr.i := by unfold fill; split <;> rfl
theorem fill_ids (fr : Fr) (t : T) : (fill fr t).ids.Perm (fr.i :: (t.ids ++ fr.sib.ids)) := by
  unfold fill
  split
  · show (fr.sib.ids ++ fr.i :: t.ids).Perm _
    exact List.perm_middle.trans (List.perm_append_comm.cons _)
  · show (t.ids ++ fr.i :: fr.sib.ids).Perm _
    exact List.perm_middle
theorem plug_ids : ∀ (c : List Fr) (t : T), (plug c t).ids.Perm (t.ids ++ cids c)
  | [], t => by simp [plug, cids]
  | fr :: c, t => by
    show (plug c (fill fr t)).ids.Perm _
    refine (plug_ids c _).trans (((fill_ids fr t).append_right _).trans ?_)
    simp only [cids, List.cons_append, List.append_assoc]
    exact List.perm_middle.symm
theorem fill_seq (fr : Fr) (t : T) : (fill fr t).seq = (if fr.side = true then fr.sib.seq ++ [fr.i] else []) ++ t.seq ++ if fr.side = true then [] else fr.i :: fr.sib.seq := by
  unfold fill
  split <;> simp [T.seq, *]
theorem plug_seq : ∀ (c : List Fr) (t : T), (plug c t).seq = dn c ++ t.seq ++ rs c
  | [], t => by simp [plug, dn, rs]
  | fr :: c, t => by
    show (plug c (fill fr t)).seq = _
    rw [plug_seq c, fill_seq]
    simp [dn, rs]
/-- a context in the array, about a subtree with the root k and the nodes l -/
def RepC (V : Nat → Int) (st : Nat → Nd) : List Fr → Nat → List Nat → Prop
  | [], _, _ => True
  | fr :: c, k, l => (fr.i ≠ 0 ∧ (st fr.i).up = par c ∧ kid (st fr.i) fr.side = k ∧ kid (st fr.i) (!fr.side) = fr.sib.root ∧ (st fr.i).flip = false ∧ (st fr.i).v = V fr.i ∧ Agg V (st fr.i) (fr.i :: (l ++ fr.sib.ids))) ∧ Rep V st fr.i fr.sib ∧ RepC V st c fr.i (fr.i :: (l ++ fr.sib.ids))
theorem RepC.perm {V : Nat → Int} {st : Nat → Nd} : ∀ {c : List Fr} {k : Nat} {l l' : List Nat}, RepC V st c k l → l.Perm l' → RepC V st c k l'
  | [], _, _, _, _, _ => trivial
  | fr :: c, k, l, l', ⟨h, hs, hc⟩, p => by
    have p2 : (fr.i :: (l ++ fr.sib.ids)).Perm (fr.i :: (l' ++ fr.sib.ids)) := (p.append_right _).cons _
    exact ⟨⟨h.1, h.2.1, h.2.2.1, h.2.2.2.1, h.2.2.2.2.1, h.2.2.2.2.2.1, h.2.2.2.2.2.2.perm p2⟩, hs, hc.perm p2⟩
theorem rep_fill {V : Nat → Int} {st : Nat → Nd} {fr : Fr} {t : T} {p : Nat} : Rep V st p (fill fr t) ↔ Rep V st fr.i t ∧ (fr.i ≠ 0 ∧ (st fr.i).up = p ∧ kid (st fr.i) fr.side = t.root ∧ kid (st fr.i) (!fr.side) = fr.sib.root ∧ (st fr.i).flip = false ∧ (st fr.i).v = V fr.i ∧ Agg V (st fr.i) (fr.i :: (t.ids ++ fr.sib.ids))) ∧ Rep V st fr.i fr.sib := by
  obtain ⟨side, i, sib⟩ := fr
  cases side
  · show ((_ ∧ _ ∧ _ ∧ _ ∧ _ ∧ _ ∧ Agg V (st i) (t.ids ++ i :: sib.ids)) ∧ Rep V st i t ∧ Rep V st i sib) ↔ _
    constructor
    · rintro ⟨⟨a, b, c, d, e, f, g⟩, h1, h2⟩
      exact ⟨h1, ⟨a, b, c, d, e, f, g.perm List.perm_middle⟩, h2⟩
    · rintro ⟨h1, ⟨a, b, c, d, e, f, g⟩, h2⟩
      exact ⟨⟨a, b, c, d, e, f, g.perm List.perm_middle.symm⟩, h1, h2⟩
  · show ((_ ∧ _ ∧ _ ∧ _ ∧ _ ∧ _ ∧ Agg V (st i) (sib.ids ++ i :: t.ids)) ∧ Rep V st i sib ∧ Rep V st i t) ↔ _
    have p : (sib.ids ++ i :: t.ids).Perm (i :: (t.ids ++ sib.ids)) := List.perm_middle.trans (List.perm_append_comm.cons _)
    constructor
    · rintro ⟨⟨a, b, c, d, e, f, g⟩, h1, h2⟩
      exact ⟨h2, ⟨a, b, d, c, e, f, g.perm p⟩, h1⟩
    · rintro ⟨h1, ⟨a, b, c, d, e, f, g⟩, h2⟩
      exact ⟨⟨a, b, d, c, e, f, g.perm p.symm⟩, h2, h1⟩
theorem rep_plug {V : Nat → Int} {st : Nat → Nd} : ∀ {c : List Fr} {t : T}, Rep V st 0 (plug c t) ↔ Rep V st (par c) t ∧ RepC V st c t.root t.ids
  | [], t => by simp [plug, par, RepC]
  | fr :: c, t => by
    show Rep V st 0 (plug c (fill fr t)) ↔ _
    rw [rep_plug, rep_fill, fill_root]
    constructor
    · rintro ⟨⟨h1, h2, h3⟩, h4⟩
      exact ⟨h1, h2, h3, h4.perm (fill_ids fr t)⟩
    · rintro ⟨h1, h2, h3, h4⟩
      exact ⟨⟨h1, h2, h3⟩, h4.perm (fill_ids fr t).symm⟩
/-- the context abides; its innermost kid may be another -/
theorem RepC.congr {V : Nat → Int} {st st' : Nat → Nd} : ∀ {c : List Fr} {k : Nat} {l : List Nat}, RepC V st c k l → (∀ j ∈ cids c, st' j = st j) → RepC V st' c k l
  | [], _, _, _, _ => trivial
  | fr :: c, k, l, ⟨h, hs, hc⟩, e => by
    refine ⟨?_, hs.congr fun j hj => e j (by simp [cids, hj]), hc.congr fun j hj => e j (by simp [cids, hj])⟩
    rw [e fr.i (by simp [cids])]
    exact h
theorem kid_setK (nd : Nd) (side : Bool) (k : Nat) : kid (setK nd side k) side = k ∧ kid (setK nd side k) (!side) = kid nd (!side) ∧ (setK nd side k).up = nd.up ∧ (setK nd side k).flip = nd.flip ∧ (setK nd side k).v = nd.v ∧ (setK nd side k).size = nd.size ∧ (setK nd side k).first = nd.first ∧ (setK nd side k).s0 = nd.s0 ∧ (setK nd side k).s1 = nd.s1 := by
  cases side <;> exact ⟨rfl, rfl, rfl, rfl, rfl, rfl, rfl, rfl, rfl⟩
theorem RepC.swap {V : Nat → Int} {st st' : Nat → Nd} {fr : Fr} {c : List Fr} {k k' : Nat} {l : List Nat} (h : RepC V st (fr :: c) k l) (hn : (cids (fr :: c)).Nodup) (h1 : ∀ j ∈ cids (fr :: c), j ≠ fr.i → st' j = st j) (h2 : st' fr.i = setK (st fr.i) fr.side k') : RepC V st' (fr :: c) k' l := by
  obtain ⟨h, hs, hc⟩ := h
  have hi := (List.nodup_cons.1 hn).1
  have kk := kid_setK (st fr.i) fr.side k'
  refine ⟨?_, hs.congr fun j hj => h1 j (by simp [cids, hj]) (fun e => hi (by rw [← e]; simp [hj])), hc.congr fun j hj => h1 j (by simp [cids, hj]) (fun e => hi (by rw [← e]; simp [hj]))⟩
  rw [h2]
  exact ⟨h.1, kk.2.2.1.trans h.2.1, kk.1, kk.2.1.trans h.2.2.2.1, kk.2.2.2.1.trans h.2.2.2.2.1, kk.2.2.2.2.1.trans h.2.2.2.2.2.1, h.2.2.2.2.2.2.congr kk.2.2.2.2.2.1 kk.2.2.2.2.2.2.1 kk.2.2.2.2.2.2.2.1 kk.2.2.2.2.2.2.2.2⟩
end Go.Proofs.Ytgichkjomhnehaa
