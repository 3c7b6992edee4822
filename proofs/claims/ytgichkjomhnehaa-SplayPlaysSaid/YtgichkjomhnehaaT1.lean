/-
  The document's sequences, plainly: a list of lists.
-/
import Derived.Test.YtgichkjomhnehaaL6
set_option linter.unusedVariables false
set_option linter.unusedSimpArgs false
namespace Go.Proofs.Ytgichkjomhnehaa

structure LQ (LL : List (List Nat)) (n : Nat) (Q : Nat → List Nat) : Prop where
  nd : LL.flatten.Nodup
  all : ∀ x, x ∈ LL.flatten ↔ x < n
  ne : ∀ l ∈ LL, l ≠ []
  q : ∀ l ∈ LL, ∀ x ∈ l, Q x = l
/-- x is at k in list i -/
def IsAt (LL : List (List Nat)) (x i k : Nat) : Prop := ∃ l, LL[i]? = some l ∧ l[k]? = some x
theorem flat_one : ∀ {LL : List (List Nat)} {x i j : Nat} {l m : List Nat}, LL.flatten.Nodup → LL[i]? = some l → LL[j]? = some m → x ∈ l → x ∈ m → i = j
  | [], x, i, j, l, m, _, h, _, _, _ => by simp at h
  | a :: LL, x, i, j, l, m, hn, h1, h2, hx, hy => by
    rw [List.flatten_cons, List.nodup_append] at hn
    rcases i with _ | i
    · rcases j with _ | j
      · rfl
      · simp at h1 h2
        subst h1
        exact (hn.2.2 x hx x (List.mem_flatten.2 ⟨m, List.mem_of_getElem? h2, hy⟩) rfl).elim
    · rcases j with _ | j
      · simp at h1 h2
        subst h2
        exact (hn.2.2 x hy x (List.mem_flatten.2 ⟨l, List.mem_of_getElem? h1, hx⟩) rfl).elim
      · simp at h1 h2
        rw [flat_one hn.2.1 h1 h2 hx hy]
theorem flat_nd : ∀ {LL : List (List Nat)} {l : List Nat}, LL.flatten.Nodup → l ∈ LL → l.Nodup
  | [], l, _, h => by simp at h
  | a :: LL, l, hn, h => by
    rw [List.flatten_cons, List.nodup_append] at hn
    rcases List.mem_cons.1 h with rfl | h
    · exact hn.1
    · exact flat_nd hn.2.1 h
section
variable {LL : List (List Nat)} {n x y i j k q : Nat} {Q : Nat → List Nat}
theorem LQ.at_ (h : LQ LL n Q) (hx : x < n) : ∃ i k, IsAt LL x i k := by
  obtain ⟨l, hl, hm⟩ := List.mem_flatten.1 ((h.all x).2 hx)
  obtain ⟨i, hi, e⟩ := List.getElem_of_mem hl
  obtain ⟨k, hk, e2⟩ := List.getElem_of_mem hm
  exact ⟨i, k, l, List.getElem?_eq_some_iff.2 ⟨hi, e⟩, List.getElem?_eq_some_iff.2 ⟨hk, e2⟩⟩
theorem IsAt.list (a : IsAt LL x i k) (h : LQ LL n Q) : LL[i]? = some (Q x) ∧ (Q x)[k]? = some x := by
  obtain ⟨l, h1, h2⟩ := a
  have := h.q l (List.mem_of_getElem? h1) x (List.mem_of_getElem? h2)
  rw [this]
  exact ⟨h1, h2⟩
theorem IsAt.mem (a : IsAt LL x i k) (h : LQ LL n Q) : x ∈ Q x := List.mem_of_getElem? (a.list h).2
theorem LQ.mem (h : LQ LL n Q) (hx : x < n) : x ∈ Q x := by obtain ⟨i, k, a⟩ := h.at_ hx; exact a.mem h
theorem IsAt.same (a : IsAt LL x i k) (b : IsAt LL y j q) (h : LQ LL n Q) : i = j ↔ y ∈ Q x := by
  obtain ⟨a1, a2⟩ := a.list h
  obtain ⟨b1, b2⟩ := b.list h
  constructor
  · rintro rfl
    rw [a1] at b1
    rw [Option.some.inj b1]
    exact List.mem_of_getElem? b2
  · intro hy
    exact flat_one h.nd a1 b1 hy (List.mem_of_getElem? b2)
theorem LQ.abs (h : LQ LL n Q) : Abs Q n := fun x hx => by
  obtain ⟨i, k, a⟩ := h.at_ hx
  obtain ⟨a1, a2⟩ := a.list h
  have hm := List.mem_of_getElem? a1
  refine ⟨List.mem_of_getElem? a2, flat_nd h.nd hm, fun y hy => ⟨(h.all y).1 (List.mem_flatten.2 ⟨_, hm, hy⟩), h.q _ hm y hy⟩⟩
theorem range_nodup (n : Nat) : (List.range n).Nodup := (List.pairwise_lt_range).imp (fun h e => by omega)
theorem nodup_len0 {n : Nat} {l : List Nat} (hd : l.Nodup) (h : ∀ x ∈ l, x < n) : l.length ≤ n := by
  have := nodup_len n (l.map (· + 1)) (List.pairwise_map.2 (hd.imp (fun h e => h (by omega)))) (fun x hx => by
    obtain ⟨y, hy, rfl⟩ := List.mem_map.1 hx
    have := h y hy
    omega)
  rwa [List.length_map] at this
theorem flat_len : ∀ {LL : List (List Nat)}, (∀ l ∈ LL, l ≠ []) → LL.length ≤ LL.flatten.length
  | [], _ => Nat.le_refl _
  | a :: LL, h => by
    have h1 := flat_len (LL := LL) (fun l hl => h l (by simp [hl]))
    have h2 := List.length_pos_iff.2 (h a (by simp))
    simp only [List.flatten_cons, List.length_append, List.length_cons]
    omega
theorem LQ.len (h : LQ LL n Q) : LL.length ≤ n := Nat.le_trans (flat_len h.ne) (nodup_len0 h.nd fun x hx => (h.all x).1 hx)
theorem LQ.size (h : LQ LL n Q) (hx : x < n) : (Q x).length ≤ n := nodup_len0 (h.abs x hx).2.1 fun y hy => ((h.abs x hx).2.2 y hy).1
theorem LQ.small (h : LQ LL n Q) (hn : n ≤ 1000000) {l : List Nat} (hl : l ∈ LL) : l.length ≤ n ∧ ∀ x ∈ l, x < n := by
  have h1 : ∀ x ∈ l, x < n := fun x hx => (h.all x).1 (List.mem_flatten.2 ⟨l, hl, hx⟩)
  exact ⟨nodup_len0 (flat_nd h.nd hl) h1, h1⟩
/-- the lists but one -/
theorem flat_erase : ∀ {LL : List (List Nat)} {i : Nat} {l : List Nat}, LL[i]? = some l → LL.flatten.Perm (l ++ (LL.eraseIdx i).flatten)
  | [], i, l, h => by simp at h
  | a :: LL, 0, l, h => by simp at h; subst h; simp
  | a :: LL, i + 1, l, h => by
    have h : LL[i]? = some l := by simpa using h
    have := flat_erase h
    rw [List.eraseIdx_cons_succ, List.flatten_cons, List.flatten_cons, ← List.append_assoc]
    refine (this.append_left a).trans ?_
    rw [← List.append_assoc]
    exact (List.perm_append_comm).append_right _
theorem mem_erase {LL : List (List Nat)} {i : Nat} {l : List Nat} (h : l ∈ LL.eraseIdx i) : l ∈ LL := (List.eraseIdx_sublist LL i).subset h
/-- lists changed: those of old make place for new ones -/
theorem LQ.change {Q' : Nat → List Nat} {K M : List (List Nat)} {old : List Nat} (h : LQ LL n Q) (hK : ∀ l ∈ K, l ∈ LL) (hp : LL.flatten.Perm (old ++ K.flatten)) (hM : M.flatten.Perm old) (hne : ∀ l ∈ M, l ≠ [])
    (h1 : ∀ l ∈ M, ∀ x ∈ l, Q' x = l) (h2 : ∀ x, x ∉ old → Q' x = Q x) : LQ (K ++ M) n Q' := by
  have hp2 : (K ++ M).flatten.Perm LL.flatten := by
    rw [List.flatten_append]
    exact (List.perm_append_comm.trans (hM.append_right _)).trans hp.symm
  have hnd := (nodup_perm hp).1 h.nd
  refine ⟨(nodup_perm hp2).2 h.nd, fun x => by rw [← h.all x]; exact hp2.mem_iff, fun l hl => ?_, fun l hl x hx => ?_⟩
  · rcases List.mem_append.1 hl with hl | hl
    · exact h.ne l (hK l hl)
    · exact hne l hl
  · rcases List.mem_append.1 hl with hl | hl
    · rw [h2 x (fun e => (List.nodup_append.1 hnd).2.2 x e x (List.mem_flatten.2 ⟨l, hl, hx⟩) rfl)]
      exact h.q l (hK l hl) x hx
    · exact h1 l hl x hx
theorem LQ.rev (h : LQ LL n Q) (a : IsAt LL x i k) : LQ (LL.eraseIdx i ++ [(Q x).reverse]) n (revQ Q x) := by
  obtain ⟨a1, a2⟩ := a.list h
  have hx := List.mem_of_getElem? a2
  refine h.change (fun l hl => mem_erase hl) (flat_erase a1) (by simp) (fun l hl => ?_) (fun l hl y hy => ?_) (fun y hy => ?_)
  · rw [List.mem_singleton.1 hl]
    intro e
    rw [List.reverse_eq_nil_iff] at e
    rw [e] at hx
    cases hx
  · rw [List.mem_singleton.1 hl] at hy ⊢
    exact if_pos (by simpa using hy)
  · exact if_neg hy
theorem LQ.split (h : LQ LL n Q) (a : IsAt LL x i k) (hk : k ≠ 0) : LQ (LL.eraseIdx i ++ [(Q x).take k, (Q x).drop k]) n (splitQ Q x k) := by
  obtain ⟨a1, a2⟩ := a.list h
  have hx := List.mem_of_getElem? a2
  have hkl := (List.getElem?_eq_some_iff.1 a2).1
  have hnd := flat_nd h.nd (List.mem_of_getElem? a1)
  rw [← List.take_append_drop k (Q x), List.nodup_append] at hnd
  refine h.change (fun l hl => mem_erase hl) (flat_erase a1) (by simp) (fun l hl => ?_) (fun l hl y hy => ?_) (fun y hy => ?_)
  · simp only [List.mem_cons, List.not_mem_nil, or_false] at hl
    rcases hl with rfl | rfl
    · intro e
      have := congrArg List.length e
      rw [List.length_take, List.length_nil] at this
      omega
    · intro e
      have := congrArg List.length e
      rw [List.length_drop, List.length_nil] at this
      omega
  · simp only [List.mem_cons, List.not_mem_nil, or_false] at hl
    unfold splitQ
    rcases hl with rfl | rfl
    · rw [if_pos hy]
    · rw [if_neg (fun e => hnd.2.2 y e y hy rfl), if_pos hy]
  · unfold splitQ
    rw [if_neg (fun e => hy (List.mem_of_mem_take e)), if_neg (fun e => hy (List.mem_of_mem_drop e))]
theorem LQ.split0 (h : LQ LL n Q) (a : IsAt LL x i 0) : LQ LL n (splitQ Q x 0) := by
  have e : splitQ Q x 0 = Q := by
    funext y
    unfold splitQ
    rw [List.take_zero, List.drop_zero, if_neg (by simp)]
    split
    · rename_i hy
      obtain ⟨a1, a2⟩ := a.list h
      exact (h.q _ (List.mem_of_getElem? a1) y hy).symm
    · rfl
  rw [e]
  exact h
theorem eraseIdx_get {LL : List (List Nat)} {i j : Nat} {l : List Nat} (h : LL[j]? = some l) (hne : i ≠ j) : ∃ j' : Nat, (LL.eraseIdx i)[j']? = some l := by
  by_cases hij : j < i
  · exact ⟨j, by rw [List.getElem?_eraseIdx, if_pos hij, h]⟩
  · refine ⟨j - 1, ?_⟩
    rw [List.getElem?_eraseIdx, if_neg (by omega), show j - 1 + 1 = j by omega, h]
theorem LQ.join (h : LQ LL n Q) (a : IsAt LL x i k) (b : IsAt (LL.eraseIdx i) y j q) (hxy : y ∉ Q x) : LQ ((LL.eraseIdx i).eraseIdx j ++ [Q x ++ Q y]) n (joinQ Q x y) := by
  obtain ⟨a1, a2⟩ := a.list h
  have hx := List.mem_of_getElem? a2
  obtain ⟨m, b1, b2⟩ := b
  have hmQ : Q y = m := h.q m (mem_erase (List.mem_of_getElem? b1)) y (List.mem_of_getElem? b2)
  subst hmQ
  refine h.change (old := Q x ++ Q y) (fun l hl => mem_erase (mem_erase hl)) ?_ (by simp) (fun l hl => ?_) (fun l hl z hz => ?_) (fun z hz => ?_)
  · rw [List.append_assoc]
    exact (flat_erase a1).trans ((flat_erase b1).append_left _)
  · rw [List.mem_singleton.1 hl]
    intro e
    rw [List.append_eq_nil_iff] at e
    rw [e.1] at hx
    cases hx
  · rw [List.mem_singleton.1 hl] at hz ⊢
    exact if_pos (List.mem_append.1 hz)
  · exact if_neg (fun e => hz (List.mem_append.2 e))
/-- behind the first step of a join -/
theorem IsAt.behind (b : IsAt LL y j q) (h : LQ LL n Q) (a : IsAt LL x i k) (hxy : y ∉ Q x) : ∃ j', IsAt (LL.eraseIdx i) y j' q := by
  obtain ⟨m, b1, b2⟩ := b
  have hne : i ≠ j := fun e => hxy ((a.same ⟨m, b1, b2⟩ h).1 e)
  obtain ⟨j', e⟩ := eraseIdx_get b1 hne
  exact ⟨j', m, e, b2⟩
end
theorem LQ.start (n : Nat) : LQ ((List.range n).map fun x => [x]) n (fun x => [x]) := by
  have e : ((List.range n).map fun x => [x]).flatten = List.range n := by
    induction n with
    | zero => rfl
    | succ n ih => rw [List.range_succ, List.map_append, List.flatten_append, ih]; rfl
  refine ⟨by rw [e]; exact range_nodup n, fun x => by rw [e, List.mem_range], fun l hl => ?_, fun l hl x hx => ?_⟩
  · obtain ⟨x, _, rfl⟩ := List.mem_map.1 hl
    simp
  · obtain ⟨y, _, rfl⟩ := List.mem_map.1 hl
    rw [List.mem_singleton.1 hx]
end Go.Proofs.Ytgichkjomhnehaa
