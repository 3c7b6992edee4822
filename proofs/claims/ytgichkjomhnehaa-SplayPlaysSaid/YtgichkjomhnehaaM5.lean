/-
  Sequences, plainly: a forest in the array, and what it stands for.
-/
import Derived.Test.YtgichkjomhnehaaM4
set_option linter.unusedVariables false
set_option linter.unusedSimpArgs false
namespace Go.Proofs.Ytgichkjomhnehaa

theorem nodup_len : ∀ (n : Nat) (l : List Nat), l.Nodup → (∀ x ∈ l, 1 ≤ x ∧ x ≤ n) → l.length ≤ n
  | 0, l, _, h => by
    cases l with
    | nil => exact Nat.le_refl _
    | cons a l => have := h a (by simp); omega
  | n + 1, l, hn, h => by
    by_cases hm : n + 1 ∈ l
    · have p := List.perm_cons_erase hm
      have hl := p.length_eq
      have h2 := nodup_len n (l.erase (n + 1)) (hn.erase _) (fun x hx => by
        have h3 := (hn.mem_erase_iff).1 hx
        have := h x h3.2
        have := h3.1
        omega)
      simp at hl
      omega
    · exact Nat.le_trans (nodup_len n l hn (fun x hx => by
        have := h x hx
        have : x ≠ n + 1 := fun e => hm (e ▸ hx)
        omega)) (Nat.le_succ _)
theorem Rep.congrV {V V' : Nat → Int} {st : Nat → Nd} : ∀ {t : T} {p : Nat}, Rep V st p t → (∀ j ∈ t.ids, V j = V' j) → Rep V' st p t
  | .nil, _, _, _ => trivial
  | .node l i f r, p, ⟨⟨h0, hu, e0, e1, ef, ev, ha⟩, hl, hr⟩, e =>
    ⟨⟨h0, hu, e0, e1, ef, ev.trans (e i (by simp [T.ids])), ha.congrV (fun x hx => e x (by simpa [T.ids] using hx))⟩, hl.congrV fun j hj => e j (by simp [T.ids, hj]), hr.congrV fun j hj => e j (by simp [T.ids, hj])⟩
theorem Rep.kids {V : Nat → Int} {st : Nat → Nd} : ∀ {t : T} {p : Nat}, Rep V st p t → ∀ j ∈ t.ids, ((st j).k0 ≠ 0 → (st j).k0 ∈ t.ids) ∧ ((st j).k1 ≠ 0 → (st j).k1 ∈ t.ids)
  | .nil, _, _, j, hj => by simp [T.ids] at hj
  | .node l i f r, p, ⟨h, hl, hr⟩, j, hj => by
    simp only [T.ids, List.mem_append, List.mem_cons] at hj ⊢
    rcases hj with hj | rfl | hj
    · exact ⟨fun h => Or.inl ((hl.kids j hj).1 h), fun h => Or.inl ((hl.kids j hj).2 h)⟩
    · rw [h.2.2.1, h.2.2.2.1]
      exact ⟨fun h => Or.inl (root_ids h), fun h => Or.inr (Or.inr (root_ids h))⟩
    · exact ⟨fun h => Or.inr (Or.inr ((hr.kids j hj).1 h)), fun h => Or.inr (Or.inr ((hr.kids j hj).2 h))⟩
def allIds (F : List T) : List Nat := F.flatMap T.ids
theorem allIds_append (A B : List T) : allIds (A ++ B) = allIds A ++ allIds B := by simp [allIds]
theorem allIds_cons (t : T) (F : List T) : allIds (t :: F) = t.ids ++ allIds F := by simp [allIds]
theorem allIds_nil : allIds [] = [] := rfl
theorem mem_allIds {F : List T} {x : Nat} : x ∈ allIds F ↔ ∃ t ∈ F, x ∈ t.ids := by simp [allIds]
structure Forest (V : Nat → Int) (st : Nat → Nd) (n : Nat) (F : List T) : Prop where
  rep : ∀ t ∈ F, Rep V st 0 t
  nd : (allIds F).Nodup
  all : ∀ x, x ∈ allIds F ↔ 1 ≤ x ∧ x ≤ n
  zero : ∀ j, (j = 0 ∨ n < j) → st j = Z0
theorem Forest.perm {V : Nat → Int} {st : Nat → Nd} {n : Nat} {F G : List T} (h : Forest V st n F) (p : F.Perm G) : Forest V st n G := by
  have q : (allIds F).Perm (allIds G) := p.flatMap_right T.ids
  exact ⟨fun t ht => h.rep t (p.mem_iff.2 ht), (nodup_perm q).1 h.nd, fun x => by rw [← h.all x]; exact q.mem_iff.symm, h.zero⟩
theorem Forest.change {V V' : Nat → Int} {st st' : Nat → Nd} {n : Nat} {A A' F : List T} (h : Forest V st n (A ++ F)) (hA : ∀ t ∈ A', Rep V' st' 0 t) (hp : (allIds A').Perm (allIds A)) (ho : ∀ j, j ∉ allIds A → st' j = st j ∧ V' j = V j) : Forest V' st' n (A' ++ F) := by
  have hnd := h.nd
  rw [allIds_append] at hnd
  have hd := (List.nodup_append.1 hnd).2.2
  refine ⟨fun t ht => ?_, ?_, fun x => ?_, fun j hj => ?_⟩
  · rcases List.mem_append.1 ht with ht | ht
    · exact hA t ht
    · have hr := h.rep t (by simp [ht])
      have off : ∀ j ∈ t.ids, j ∉ allIds A := fun j hj hx => hd j hx j (mem_allIds.2 ⟨t, ht, hj⟩) rfl
      exact (hr.congr fun j hj => (ho j (off j hj)).1).congrV fun j hj => (ho j (off j hj)).2.symm
  · rw [allIds_append]
    exact (nodup_perm (hp.append_right _)).2 hnd
  · rw [← h.all x, allIds_append, allIds_append]
    simp only [List.mem_append, hp.mem_iff]
  · have hj2 : j ∉ allIds A := fun e => by
      have := (h.all j).1 (by rw [allIds_append]; exact List.mem_append_left _ e)
      omega
    rw [(ho j hj2).1]
    exact h.zero j hj
theorem Forest.kb {V : Nat → Int} {st : Nat → Nd} {n : Nat} {F : List T} (h : Forest V st n F) : KB n st := fun j => by
  by_cases hj : j ∈ allIds F
  · obtain ⟨t, ht, hjt⟩ := mem_allIds.1 hj
    obtain ⟨k0, k1⟩ := (h.rep t ht).kids j hjt
    have hin : ∀ k, k ∈ t.ids → k ≤ n := fun k hk => ((h.all k).1 (mem_allIds.2 ⟨t, ht, hk⟩)).2
    constructor
    · by_cases e : (st j).k0 = 0
      · omega
      · exact hin _ (k0 e)
    · by_cases e : (st j).k1 = 0
      · omega
      · exact hin _ (k1 e)
  · have : j = 0 ∨ n < j := by
      rw [h.all j] at hj
      omega
    rw [h.zero j this]
    exact ⟨Nat.zero_le _, Nat.zero_le _⟩
theorem Forest.env {V : Nat → Int} {st : Nat → Nd} {n : Nat} {t : T} {F : List T} (h : Forest V st n (t :: F)) (hF : Fit V) (hn : n ≤ 65536) : Whole V st t t.seq t.ids ∧ Env V n st t.ids := by
  have hnd := h.nd
  rw [allIds_cons] at hnd
  have hm : ∀ j ∈ t.ids, 1 ≤ j ∧ j ≤ n := fun j hj => (h.all j).1 (by rw [allIds_cons]; exact List.mem_append_left _ hj)
  have hd := (List.nodup_append.1 hnd).1
  exact ⟨⟨h.rep t (by simp), rfl, List.Perm.refl _⟩, ⟨hF, hd, hm, Nat.le_trans (nodup_len n _ hd hm) hn, h.zero 0 (Or.inl rfl), h.kb⟩⟩
/-- the forest and the sequences that it stands for -/
def Sq (V : Nat → Int) (st : Nat → Nd) (n : Nat) (S : Nat → List Nat) (F : List T) : Prop := Forest V st n F ∧ ∀ t ∈ F, ∀ x ∈ t.ids, S x = t.seq
theorem Sq.focus {V : Nat → Int} {st : Nat → Nd} {n : Nat} {S : Nat → List Nat} {F : List T} (h : Sq V st n S F) {x : Nat} (h1 : 1 ≤ x) (h2 : x ≤ n) : ∃ t G, Sq V st n S (t :: G) ∧ x ∈ t.ids := by
  obtain ⟨t, ht, hx⟩ := mem_allIds.1 ((h.1.all x).2 ⟨h1, h2⟩)
  obtain ⟨A, B, rfl⟩ := List.append_of_mem ht
  have p : (A ++ t :: B).Perm (t :: (A ++ B)) := List.perm_middle
  exact ⟨t, A ++ B, ⟨h.1.perm p, fun u hu => h.2 u (p.mem_iff.2 hu)⟩, hx⟩
/-- another tree of the same sequence -/
theorem Sq.same {V : Nat → Int} {st st' : Nat → Nd} {n : Nat} {S : Nat → List Nat} {t t' : T} {F : List T} (h : Sq V st n S (t :: F)) (hw : Whole V st' t' t.seq t.ids) (ho : ∀ j, j ∉ t.ids → st' j = st j) : Sq V st' n S (t' :: F) := by
  refine ⟨Forest.change (A := [t]) (A' := [t']) h.1 (fun u hu => ?_) ?_ (fun j hj => ⟨ho j (by simpa [allIds] using hj), rfl⟩), fun u hu x hx => ?_⟩
  · rw [List.mem_singleton.1 hu]; exact hw.rep
  · simpa [allIds] using hw.ids
  · rcases List.mem_cons.1 hu with rfl | hu
    · rw [hw.seq]
      exact h.2 t (by simp) x (hw.ids.mem_iff.1 hx)
    · exact h.2 u (by simp [hu]) x hx
/-- trees changed into others -/
theorem Sq.turn {V V' : Nat → Int} {st st' : Nat → Nd} {n : Nat} {S S' : Nat → List Nat} {A A' F : List T} (h : Sq V st n S (A ++ F)) (hA : ∀ t ∈ A', Rep V' st' 0 t) (hp : (allIds A').Perm (allIds A)) (ho : ∀ j, j ∉ allIds A → st' j = st j ∧ V' j = V j)
    (hS : ∀ t ∈ A', ∀ x ∈ t.ids, S' x = t.seq) (hS2 : ∀ x, x ∉ allIds A → S' x = S x) : Sq V' st' n S' (A' ++ F) := by
  refine ⟨h.1.change hA hp ho, fun u hu x hx => ?_⟩
  rcases List.mem_append.1 hu with hu | hu
  · exact hS u hu x hx
  · have hnd := h.1.nd
    rw [allIds_append] at hnd
    rw [hS2 x (fun e => (List.nodup_append.1 hnd).2.2 x e x (mem_allIds.2 ⟨u, hu, hx⟩) rfl)]
    exact h.2 u (by simp [hu]) x hx
theorem Sq.seq {V : Nat → Int} {st : Nat → Nd} {n : Nat} {S : Nat → List Nat} {F : List T} (h : Sq V st n S F) {x : Nat} (h1 : 1 ≤ x) (h2 : x ≤ n) : x ∈ S x ∧ (S x).Nodup ∧ ∀ y ∈ S x, 1 ≤ y ∧ y ≤ n ∧ S y = S x := by
  obtain ⟨t, G, hS, hx⟩ := h.focus h1 h2
  have e := hS.2 t (by simp) x hx
  have hp := T.seq_perm t
  have hnd := hS.1.nd
  rw [allIds_cons] at hnd
  rw [e]
  refine ⟨hp.mem_iff.2 hx, (nodup_perm hp).2 (List.nodup_append.1 hnd).1, fun y hy => ?_⟩
  have hy2 := hp.mem_iff.1 hy
  have := (hS.1.all y).1 (by rw [allIds_cons]; exact List.mem_append_left _ hy2)
  exact ⟨this.1, this.2, hS.2 t (by simp) y hy2⟩
end Go.Proofs.Ytgichkjomhnehaa
