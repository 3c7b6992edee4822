/-
  The buckets: take.
-/
import Derived.Test.YtoiafopndlnknaaB9
set_option linter.unusedVariables false
set_option linter.unusedSimpArgs false
namespace Go.Proofs.Ytoiafopndlnknaa
open Go.RowKit Go.Shelf

/-- the first k cells of a row of cap numbers -/
def RowS (w : World) (g k cap : Nat) (F : Nat → Int) : Prop := ∃ cs : Array Value, Blk w g 3 cs ∧ cs.size = cap ∧ ∀ i, i < k → cs[i]? = some (.int .i64 (F i))
section
variable {w w' : World} {g k cap : Nat} {F : Nat → Int}
theorem RowS.cell (h : RowS w g k cap F) {i : Nat} (hi : i < k) : w.cell? ⟨g, i, none⟩ = some (.int .i64 (F i)) := by
  obtain ⟨cs, h1, h2, h3⟩ := h
  exact (h1.cell i).trans (h3 i hi)
theorem RowS.lt (h : RowS w g k cap F) : g < w.heap.size := by obtain ⟨cs, h1, h2, h3⟩ := h; exact h1.lt
theorem RowS.below (h : RowS w g k cap F) (hb : Below w.heap.size w w') : RowS w' g k cap F := by
  obtain ⟨cs, h1, h2, h3⟩ := h
  exact ⟨cs, h1.below hb h1.lt, h2, h3⟩
theorem RowS.of_list {B : Nat} {A : Option Addr} {n c : Nat} {l : List Nat} (h : RowL w B (.slice A n c) l) (hn : A ≠ none) : ∃ g, A = some ⟨g, 0, none⟩ ∧ n = l.length ∧ n ≤ c ∧ c ≤ maxLen ∧ RowS w g n c (fun i => ((l.getD i 0 : Nat) : Int)) := by
  obtain ⟨h1, h2⟩ := h
  rcases h2 with ⟨e, _⟩ | ⟨g, cap, cur, hv, hg, hh, hc, hm, hs, ht⟩
  · cases e; exact absurd rfl hn
  · cases hv
    refine ⟨g, rfl, rfl, hc, hm, cur, hh, by rw [hs, Nat.mul_one], fun i hi => ?_⟩
    have hk := congrArg (fun t => t[i]?) ht
    simp only [List.getElem?_take, Nat.mul_one] at hk
    rw [if_pos hi, nums_vals, vals_get hi] at hk
    rw [← Array.getElem?_toList]
    exact hk
theorem RowS.to_list {l : List Nat} (h : RowS w g k cap F) (hl : l.length ≤ k) (hkc : k ≤ cap) (hm : cap ≤ maxLen) (he : ∀ i, i < l.length → F i = (l.getD i 0 : Nat)) : RowL w 0 (.slice (some ⟨g, 0, none⟩) l.length cap) l := by
  obtain ⟨cs, h1, h2, h3⟩ := h
  refine ⟨by rw [nums_len, Nat.mul_one], .inr ⟨g, cap, cs, rfl, Nat.zero_le _, h1, by omega, hm, by rw [h2, Nat.mul_one], ?_⟩⟩
  rw [Nat.mul_one, nums_vals]
  apply List.ext_getElem?
  intro i
  rw [List.getElem?_take]
  by_cases hi : i < l.length
  · rw [if_pos hi, vals_get hi, Array.getElem?_toList, h3 i (by omega), he i hi]
  · rw [if_neg hi, List.getElem?_eq_none (by rw [vals_len]; omega)]
end
/-- append of one number to a slice with room -/
theorem wpList_append_room1 {ops : Array Oper} {rest : List Oper} {o : Oper} {a : Act} {w : World} {Q : Exit → Act → World → Prop} (hgd : o.guard = none) (s x : Operand) (ho : o.op = .call { callee := .builtin .append, args := #[s, x], argTypes := #[31, 31] })
    (g k cap kl : Nat) (F : Nat → Int) (y bx : Nat) (hs : a.eval s = .slice (some ⟨g, 0, none⟩) kl cap) (hR : RowS w g k cap F) (hx : a.eval x = .slice (some ⟨bx, 0, none⟩) 1 1) (hc : w.cell? ⟨bx, 0, none⟩ = some (.int .i64 (y : Int)))
    (hk : kl < k) (hkc : k ≤ cap)
    (h : ∀ w', RowS w' g k cap (fun j => if j = kl then (y : Int) else F j) → w.grownBy w' (some g) → wpList Try.prog ops Q rest (a.put o.dst (.slice (some ⟨g, 0, none⟩) (kl + 1) cap)) w') :
    wpList Try.prog ops Q (o :: rest) a w := by
  obtain ⟨i0, hi, hz0, hz1, hz2⟩ := info_parts info3
  obtain ⟨cs, h1, h2, h3⟩ := hR
  refine wpList_plain hgd fun K hK => ?_
  have hr := run_append_room (P := Try.prog) w 31 o.type 3 i0 Try.underlying31 hi g kl cap cs h1 ⟨bx, 0, none⟩ 1 1 [.int .i64 (y : Int)] (by rw [hz1]; rfl) (fun j u hu => by
    rcases j with _ | j
    · simp at hu; subst hu; exact hc
    · simp at hu) (fun u hu => by simp at hu; subst hu; rfl) (by omega) (by rw [hz1, h2]; simp; omega)
  unfold Oper.wp execOp
  simp only [ho, resolve, invoke, builtin, Sem.run_bind, Sem.run_pure, Result.andThen_ok, List.map_toArray, List.map_cons, List.map_nil, hs, hx, hr]
  refine hK _ _ (h _ ⟨_, setRow_heap w g cs _ 3 (0, 0) h1, ?_, fun j hj => ?_⟩ ⟨rfl, rfl, rfl, by simp, fun q _ hq => setRow_other w g q _ (fun e => hq (by rw [e]))⟩)
  · rw [hz1]
    simp only [List.size_toArray, List.length_append, List.length_take, List.length_drop, Array.length_toList, Nat.mul_one, List.length_singleton]
    omega
  · rw [hz1]
    simp only [Nat.mul_one, List.length_singleton, List.getElem?_toArray, List.append_assoc]
    have hlen : (cs.toList.take kl).length = kl := by rw [List.length_take, Array.length_toList]; omega
    rcases Nat.lt_trichotomy j kl with q | q | q
    · rw [List.getElem?_append_left (by omega), List.getElem?_take, if_pos q, Array.getElem?_toList, h3 j hj, if_neg (by omega)]
    · subst q
      rw [List.getElem?_append_right (by omega), hlen, Nat.sub_self, if_pos rfl]
      rfl
    · rw [List.getElem?_append_right (by omega), hlen, List.getElem?_append_right (by simp; omega), List.getElem?_drop, if_neg (by omega)]
      simp only [List.length_singleton]
      rw [show kl + 1 + (j - kl - 1) = j by omega, Array.getElem?_toList]
      exact h3 j hj
/-- degrees: those of the left, and -1 -/
def dvOf (L : Nat → Bool) (D : Nat → Nat) : Nat → Int := fun u => if L u = true then (D u : Nat) else -1
/-- what holds of the buckets -/
structure BkI (n : Nat) (L : Nat → Bool) (D : Nat → Nat) (mem : Nat → List Nat) (low B : Nat) : Prop where
  lt : ∀ d, d < B → ∀ u ∈ mem d, u < n
  le : ∀ d, d < B → ∀ u ∈ mem d, L u = true → D u ≤ d
  nd : ∀ d, d < B → (mem d).Nodup
  has : ∀ u, u < n → L u = true → D u < B ∧ u ∈ mem (D u)
  low : ∀ u, u < n → L u = true → low ≤ D u
theorem dvOf_eq {L : Nat → Bool} {D : Nat → Nat} {u lo : Nat} : dvOf L D u = (lo : Nat) ↔ L u = true ∧ D u = lo := by
  unfold dvOf
  cases h : L u <;> simp
  omega
def keepF (L : Nat → Bool) (D : Nat → Nat) (lo : Nat) (l : List Nat) : List Nat := l.filter fun u => L u && D u == lo
def minS (m : Int) (u : Nat) : Int := if m < 0 ∨ (u : Int) < m then (u : Int) else m
def minL (l : List Nat) : Int := l.foldl minS (-1)
theorem minL_snoc (l : List Nat) (u : Nat) : minL (l ++ [u]) = minS (minL l) u := by simp [minL]
theorem minL_spec : ∀ (r : List Nat) (l : List Nat), l = r.reverse → (l = [] ∧ minL l = -1) ∨ ∃ m, m ∈ l ∧ minL l = (m : Nat) ∧ ∀ u ∈ l, m ≤ u
  | [], l, h => .inl (by subst h; exact ⟨rfl, rfl⟩)
  | x :: r, l, h => by
    right
    subst h
    rw [List.reverse_cons, minL_snoc]
    rcases minL_spec r _ rfl with ⟨h1, h2⟩ | ⟨m, h1, h2, h3⟩
    · refine ⟨x, by simp, by rw [h2]; simp [minS], fun u hu => ?_⟩
      rw [h1] at hu
      simp at hu
      omega
    · rw [h2]
      by_cases hx : x < m
      · refine ⟨x, by simp, by unfold minS; rw [if_pos (.inr (by omega))], fun u hu => ?_⟩
        rcases List.mem_append.1 hu with g | g
        · have := h3 u g; omega
        · simp at g; omega
      · refine ⟨m, List.mem_append_left _ h1, by unfold minS; rw [if_neg (by omega)], fun u hu => ?_⟩
        rcases List.mem_append.1 hu with g | g
        · exact h3 u g
        · simp at g; omega
theorem minL_cases (l : List Nat) : (l = [] ∧ minL l = -1) ∨ ∃ m, m ∈ l ∧ minL l = (m : Nat) ∧ ∀ u ∈ l, m ≤ u := minL_spec l.reverse l (by rw [List.reverse_reverse])
/-- the least of the left: the degrees D -/
def IsLeast (n : Nat) (L : Nat → Bool) (D : Nat → Nat) (v d : Nat) : Prop := v < n ∧ L v = true ∧ d = D v ∧ ∀ u, u < n → L u = true → d < D u ∨ (d = D u ∧ v ≤ u)
section
variable {n low B : Nat} {L : Nat → Bool} {D : Nat → Nat} {mem : Nat → List Nat}
theorem BkI.keep (h : BkI n L D mem low B) {d : Nat} (hd : d < B) : BkI n L D (upd mem d (keepF L D d (mem d))) low B := by
  have sub : ∀ e, e < B → ∀ u ∈ upd mem d (keepF L D d (mem d)) e, u ∈ mem e := fun e he u hu => by
    unfold upd at hu
    split at hu
    · rename_i q; subst q; exact (List.mem_filter.1 hu).1
    · exact hu
  refine ⟨fun e he u hu => h.lt e he u (sub e he u hu), fun e he u hu => h.le e he u (sub e he u hu), fun e he => ?_, fun u hu hl => ?_, h.low⟩
  · unfold upd
    split
    · rename_i q; subst q; exact (h.nd e he).sublist List.filter_sublist
    · exact h.nd e he
  · obtain ⟨h1, h2⟩ := h.has u hu hl
    refine ⟨h1, ?_⟩
    unfold upd
    split
    · rename_i q
      unfold keepF
      rw [q] at h2
      exact List.mem_filter.2 ⟨h2, by simp [hl, q]⟩
    · exact h2
theorem BkI.next (h : BkI n L D mem low B) (hlo : low < B) (he : keepF L D low (mem low) = []) : BkI n L D mem (low + 1) B := by
  refine ⟨h.lt, h.le, h.nd, h.has, fun u hu hl => ?_⟩
  have h1 := h.low u hu hl
  rcases Nat.lt_or_ge low (D u) with q | q
  · exact q
  · exfalso
    have e : D u = low := by omega
    have h2 := (h.has u hu hl).2
    rw [e] at h2
    have : u ∈ keepF L D low (mem low) := List.mem_filter.2 ⟨h2, by simp [hl, e]⟩
    rw [he] at this
    cases this
theorem BkI.found (h : BkI n L D mem low B) (hlo : low < B) {v : Nat} (hv : v ∈ keepF L D low (mem low)) (hm : ∀ u ∈ keepF L D low (mem low), v ≤ u) : IsLeast n L D v low := by
  obtain ⟨h1, h2⟩ := List.mem_filter.1 hv
  simp at h2
  refine ⟨h.lt low hlo v h1, h2.1, h2.2.symm, fun u hu hl => ?_⟩
  have h3 := h.low u hu hl
  rcases Nat.lt_or_ge low (D u) with q | q
  · exact .inl q
  · have e : D u = low := by omega
    have h4 := (h.has u hu hl).2
    rw [e] at h4
    exact .inr ⟨e.symm, hm u (List.mem_filter.2 ⟨h4, by simp [hl, e]⟩)⟩
theorem rem_of {L : Nat → Bool} {v u : Nat} (h : rem L v u = true) : L u = true ∧ u ≠ v := by
  unfold rem at h
  split at h
  · cases h
  · exact ⟨h, by assumption⟩
theorem BkI.gone (h : BkI n L D mem low B) (v : Nat) : BkI n (rem L v) D mem low B :=
  ⟨h.lt, fun d hd u hu hl => h.le d hd u hu (rem_of hl).1, h.nd, fun u hu hl => h.has u hu (rem_of hl).1, fun u hu hl => h.low u hu (rem_of hl).1⟩
theorem dvOf_rem (L : Nat → Bool) (D : Nat → Nat) (v : Nat) : dvOf (rem L v) D = upd (dvOf L D) v (-1) := by
  funext u
  unfold dvOf rem upd
  by_cases h : u = v
  · subst h; simp
  · simp [h]
end
theorem grow_drewN {w w' : World} {r : Option Nat} (h : w.grownBy w' r) (k : Nat) : w.grownBy (w'.drewN k) r := ⟨h.os, h.tape, h.output, h.size, h.block⟩
theorem grow_alloc {w w' : World} {r : Option Nat} (h : w.grownBy w' r) (o : Obj) : w.grownBy (w'.alloc o) r := h.trans (World.grownBy_alloc w' o r)
theorem grow_refl (w : World) (r : Option Nat) : w.grownBy w r := ⟨rfl, rfl, rfl, Nat.le_refl _, fun _ _ _ => rfl⟩
/-- reads beside a list that turns -/
theorem Bk.beside {w w' : World} {b gd gm n B low g : Nat} {dv : Nat → Int} {mem : Nat → List Nat} {X : Nat → Prop} (h : Bk w b gd gm n B dv mem low X) (hg : w.grownBy w' (some g)) (h1 : g ≠ b ∧ g ≠ gd ∧ g ≠ gm) :
    w'.cell? ⟨b, 0, none⟩ = some (.slice (some ⟨gd, 0, none⟩) n n) ∧ w'.cell? ⟨b, 1, none⟩ = some (.slice (some ⟨gm, 0, none⟩) B B) ∧ w'.cell? ⟨b, 2, none⟩ = some (.int .i64 (low : Nat)) ∧ ∀ u, u < n → w'.cell? ⟨gd, u, none⟩ = some (.int .i64 (dv u)) := by
  have hlt := h.lt
  obtain ⟨c0, c1, c2⟩ := h.cells
  have e1 : ∀ i, w'.cell? ⟨b, i, none⟩ = w.cell? ⟨b, i, none⟩ := fun i => cell_heap (hg.block b hlt.1 (fun e => h1.1 (Option.some.inj e).symm))
  have e2 : ∀ i, w'.cell? ⟨gd, i, none⟩ = w.cell? ⟨gd, i, none⟩ := fun i => cell_heap (hg.block gd hlt.2.1 (fun e => h1.2.1 (Option.some.inj e).symm))
  exact ⟨(e1 0).trans c0, (e1 1).trans c1, (e1 2).trans c2, fun u hu => (e2 u).trans (h.deg.cell hu)⟩
end Go.Proofs.Ytoiafopndlnknaa
