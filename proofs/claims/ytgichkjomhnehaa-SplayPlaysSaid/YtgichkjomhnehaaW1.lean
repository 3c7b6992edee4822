/-
  Sequences in memory; the small functions of package splay.
-/
import Derived.Test.YtgichkjomhnehaaA1
import Derived.Test.YtgichkjomhnehaaM3
import Derived.Test.YtgichkjomhnehaaShelf
import Derived.Deep.QuietTactic
import Derived.BigQuiet
import Derived.BigRegion
import Derived.Deep.DeepCutAuto
set_option linter.unusedVariables false
set_option linter.unusedSimpArgs false
namespace Go.Proofs.Ytgichkjomhnehaa
open Go.RowKit Go.Shelf

/-- the cells of a node -/
def fld (d : Nd) : Nat → Value
  | 0 => .int .i64 d.k0
  | 1 => .int .i64 d.k1
  | 2 => .int .i64 d.up
  | 3 => .bool d.flip
  | 4 => .int .i64 d.v
  | 5 => .int .i64 d.size
  | 6 => .int .i64 d.first
  | 7 => .int .u64 d.s0
  | _ => .int .u64 d.s1
/-- the nodes in block s -/
def Nodes (w : World) (s n : Nat) (st : Nat → Nd) : Prop := ∃ cs, Blk w s 74 cs ∧ ∀ i, i ≤ n → ∀ f, f < 9 → cs[i * 9 + f]? = some (fld (st i) f)
/-- the sequences' struct in block b, the nodes in block s -/
def SP (w : World) (b s n : Nat) (st : Nat → Nd) : Prop := (∃ c, Blk w b 66 #[.pointer (some ⟨b, 0, none⟩), .slice (some ⟨s, 0, none⟩) (n + 1) c] ∧ n + 1 ≤ c ∧ c ≤ 9223372036854775807) ∧ Nodes w s n st
section
variable {w w' : World} {b s n : Nat} {st : Nat → Nd}
theorem Nodes.lt (h : Nodes w s n st) : s < w.heap.size := by obtain ⟨cs, h, _⟩ := h; exact h.lt
theorem Nodes.cell (h : Nodes w s n st) {i : Nat} (hi : i ≤ n) (f : Nat) (hf : f < 9) : w.cell? ⟨s, i * 9 + f, none⟩ = some (fld (st i) f) := by
  obtain ⟨cs, h, hc⟩ := h
  rw [h.cell]
  exact hc i hi f hf
theorem Nodes.frozen (h : Nodes w s n st) (i : Nat) : w.frozen? ⟨s, i, none⟩ = false := by obtain ⟨cs, h, _⟩ := h; exact h.frozen i
theorem Nodes.below (h : Nodes w s n st) (hb : Below w.heap.size w w') : Nodes w' s n st := by obtain ⟨cs, h, hc⟩ := h; exact ⟨cs, h.below hb h.lt, hc⟩
theorem Nodes.turns {S : Nat → Prop} (h : Nodes w s n st) (ht : Turns S w w') (hs : ¬ S s) : Nodes w' s n st := by obtain ⟨cs, h, hc⟩ := h; exact ⟨cs, h.turns ht hs, hc⟩
theorem Nodes.far (h : Nodes w s n st) {p : Addr} (hp : s ≠ p.block) (u : Value) : Nodes (w.setCell p u) s n st := by obtain ⟨cs, h, hc⟩ := h; exact ⟨cs, h.far hp u, hc⟩
theorem Nodes.congr {st' : Nat → Nd} (h : Nodes w s n st) (e : ∀ i, i ≤ n → st i = st' i) : Nodes w s n st' := by
  obtain ⟨cs, h, hc⟩ := h
  exact ⟨cs, h, fun i hi f hf => by rw [hc i hi f hf, e i hi]⟩
/-- one cell of a node -/
theorem Nodes.set_ (h : Nodes w s n st) {i f : Nat} (hi : i ≤ n) (hf : f < 9) {u : Value} {nd : Nd} (h1 : fld nd f = u) (h2 : ∀ g, g < 9 → g ≠ f → fld nd g = fld (st i) g) : Nodes (w.setCell ⟨s, i * 9 + f, none⟩ u) s n (put st i nd) := by
  obtain ⟨cs, h, hc⟩ := h
  refine ⟨_, h.set_ _ u, fun j hj g hg => ?_⟩
  have hj' := hc j hj g hg
  rw [Array.getElem?_setIfInBounds]
  by_cases e : i * 9 + f = j * 9 + g
  · have : i = j := by omega
    subst this
    obtain rfl : f = g := by omega
    rw [if_pos rfl, if_pos (Array.getElem?_eq_some_iff.1 hj').1, put_at, h1]
  · rw [if_neg e, hj']
    by_cases e2 : j = i
    · subst e2
      rw [put_at, h2 g hg (by omega)]
    · rw [put_ne _ _ e2]
theorem SP.cell0 (h : SP w b s n st) : w.cell? ⟨b, 0, none⟩ = some (.pointer (some ⟨b, 0, none⟩)) := by
  obtain ⟨⟨c, hb, _⟩, _⟩ := h
  simpa using hb.cell 0
theorem SP.cell1 (h : SP w b s n st) : ∃ c, w.cell? ⟨b, 1, none⟩ = some (.slice (some ⟨s, 0, none⟩) (n + 1) c) ∧ n + 1 ≤ c ∧ c ≤ 9223372036854775807 := by
  obtain ⟨⟨c, hb, hc⟩, _⟩ := h
  exact ⟨c, by simpa using hb.cell 1, hc⟩
theorem SP.lt (h : SP w b s n st) : b < w.heap.size ∧ s < w.heap.size := by
  obtain ⟨⟨c, hb, _⟩, h2⟩ := h
  exact ⟨hb.lt, h2.lt⟩
theorem SP.ne (h : SP w b s n st) : b ≠ s := by
  obtain ⟨⟨c, hb, _⟩, cs, h2, _⟩ := h
  exact hb.ne_ h2 (by decide)
theorem SP.below (h : SP w b s n st) (hb : Below w.heap.size w w') : SP w' b s n st := by
  obtain ⟨⟨c, h1, hc⟩, h2⟩ := h
  exact ⟨⟨c, h1.below hb h1.lt, hc⟩, h2.below hb⟩
theorem SP.turns {S : Nat → Prop} (h : SP w b s n st) (ht : Turns S w w') (h1 : ¬ S b) (h2 : ¬ S s) : SP w' b s n st := by
  obtain ⟨⟨c, k1, hc⟩, k2⟩ := h
  exact ⟨⟨c, k1.turns ht h1, hc⟩, k2.turns ht h2⟩
theorem SP.drewN (h : SP w b s n st) (m : Nat) : SP (w.drewN m) b s n st := h
theorem SP.congr {st' : Nat → Nd} (h : SP w b s n st) (e : ∀ i, i ≤ n → st i = st' i) : SP w b s n st' := ⟨h.1, h.2.congr e⟩
theorem SP.set_ (h : SP w b s n st) {i f : Nat} (hi : i ≤ n) (hf : f < 9) {u : Value} {nd : Nd} (h1 : fld nd f = u) (h2 : ∀ g, g < 9 → g ≠ f → fld nd g = fld (st i) g) : SP (w.setCell ⟨s, i * 9 + f, none⟩ u) b s n (put st i nd) := by
  have hne := h.ne
  obtain ⟨⟨c, k1, hc⟩, k2⟩ := h
  exact ⟨⟨c, k1.far hne u, hc⟩, k2.set_ hi hf h1 h2⟩
end
/-- no valid sequences: nil, or zero ones -/
def NoSeqs (w : World) (p : Option Addr) : Prop := p = none ∨ ∃ b, p = some ⟨b, 0, none⟩ ∧ Blk w b 66 #[.pointer none, .slice none 0 0]
theorem NoSeqs.below {w w' : World} {p : Option Addr} (h : NoSeqs w p) (hb : Below w.heap.size w w') : NoSeqs w' p := by
  rcases h with h | ⟨b, h1, h2⟩
  · exact .inl h
  · exact .inr ⟨b, h1, h2.below hb h2.lt⟩
theorem info66 : (Try.prog.info? 66).isSome = true := by kernel_rfl

theorem valid_ok (b s n : Nat) (st : Nat → Nd) (w : World) (h : SP w b s n st) :
    Calls Try.prog 45 #[.pointer (some ⟨b, 0, none⟩)] w fun e w' => e = .returned (.bool true) ∧ w = w' := by
  have h0 := h.cell0
  obtain ⟨j, hj⟩ := Option.isSome_iff_exists.1 info66
  have he := run_eql_ptr_same (P := Try.prog) w (⟨b, 0, none⟩ : Addr) Try.underlying23 hj
  clear hj
  go_enter Try.func45, Try.ntmps45
  go_wp2
  go_ret
  exact ⟨rfl, rfl⟩
theorem valid_no (p : Option Addr) (w : World) (h : NoSeqs w p) :
    Calls Try.prog 45 #[.pointer p] w fun e w' => e = .returned (.bool false) ∧ w = w' := by
  rcases h with rfl | ⟨b, rfl, h⟩
  · go_enter Try.func45, Try.ntmps45
    go_wp2
    go_ret
    exact ⟨rfl, rfl⟩
  · have h0 := h.cell 0
    simp at h0
    have he := run_eql_nil_ptr (P := Try.prog) w (⟨b, 0, none⟩ : Addr) Try.underlying23
    go_enter Try.func45, Try.ntmps45
    go_wp2
    go_ret
    exact ⟨rfl, rfl⟩
set_option maxRecDepth 100000 in
theorem has_no (p : Option Addr) (x : Int) (w : World) (h : NoSeqs w p) :
    Calls Try.prog 38 #[.pointer p, .int .i64 x] w fun e w' => e = .returned (.bool false) ∧ w = w' := by
  have x0 := valid_no p w h
  go_enter Try.func38, Try.ntmps38
  go_wp2_with fail
  refine x0.mono ?_
  rintro e w' ⟨rfl, rfl⟩
  go_wp2_with fail
  go_ret
  exact ⟨rfl, rfl⟩
/-- x is a node -/
def hasB (n : Nat) (x : Int) : Bool := decide (0 ≤ x ∧ x < n)
set_option maxRecDepth 100000 in
theorem has_ok (b s n : Nat) (st : Nat → Nd) (x : Int) (w : World) (h : SP w b s n st) (hn : n ≤ 65536) :
    Calls Try.prog 38 #[.pointer (some ⟨b, 0, none⟩), .int .i64 x] w fun e w' => e = .returned (.bool (hasB n x)) ∧ w = w' := by
  have x0 := valid_ok b s n st w h
  obtain ⟨c, h1, h2, h3⟩ := h.cell1
  by_cases h0 : 0 ≤ x
  · by_cases hx : x < n
    · have HB := Lib.hid (show hasB n x = true from decide_eq_true ⟨h0, hx⟩)
      have hx1 : x < (n : Int) + 1 - 1 := by omega
      go_enter Try.func38, Try.ntmps38
      go_wp2_with fail
      refine x0.mono ?_
      rintro e w' ⟨rfl, rfl⟩
      go_wp2_with fail
      go_ret
      rw [HB.out]
      exact ⟨rfl, rfl⟩
    · have HB := Lib.hid (show hasB n x = false from decide_eq_false (by omega))
      have hx1 : ¬ x < (n : Int) + 1 - 1 := by omega
      have hx2 : decide (x < (n : Int)) = false := decide_eq_false hx
      go_enter Try.func38, Try.ntmps38
      go_wp2_with fail
      refine x0.mono ?_
      rintro e w' ⟨rfl, rfl⟩
      go_wp2_with fail
      go_ret
      rw [HB.out]
      exact ⟨rfl, rfl⟩
  · have HB := Lib.hid (show hasB n x = false from decide_eq_false (by omega))
    go_enter Try.func38, Try.ntmps38
    go_wp2_with fail
    refine x0.mono ?_
    rintro e w' ⟨rfl, rfl⟩
    go_wp2_with fail
    go_ret
    rw [HB.out]
    exact ⟨rfl, rfl⟩
/-- a side as a number -/
def sv (side : Bool) : Int := if side = true then 1 else 0
theorem fld_setK (d : Nd) (side : Bool) (k : Nat) : fld (setK d side k) (if side = true then 1 else 0) = .int .i64 k ∧ ∀ g, g < 9 → g ≠ (if side = true then 1 else 0) → fld (setK d side k) g = fld d g := by
  cases side
  · exact ⟨rfl, fun g hg hne => by rcases g with _ | _ | _ | _ | _ | _ | _ | _ | _ | g <;> first | rfl | exact (hne rfl).elim | omega⟩
  · exact ⟨rfl, fun g hg hne => by rcases g with _ | _ | _ | _ | _ | _ | _ | _ | _ | g <;> first | rfl | exact (hne rfl).elim | omega⟩
theorem fld_up (d : Nd) (u : Nat) : fld { d with up := u } 2 = .int .i64 u ∧ ∀ g, g < 9 → g ≠ 2 → fld { d with up := u } g = fld d g :=
  ⟨rfl, fun g hg hne => by rcases g with _ | _ | _ | _ | _ | _ | _ | _ | _ | g <;> first | rfl | exact (hne rfl).elim | omega⟩
theorem fld_flip (d : Nd) (u : Bool) : fld { d with flip := u } 3 = .bool u ∧ ∀ g, g < 9 → g ≠ 3 → fld { d with flip := u } g = fld d g :=
  ⟨rfl, fun g hg hne => by rcases g with _ | _ | _ | _ | _ | _ | _ | _ | _ | g <;> first | rfl | exact (hne rfl).elim | omega⟩
theorem fld_v (d : Nd) (u : Int) : fld { d with v := u } 4 = .int .i64 u ∧ ∀ g, g < 9 → g ≠ 4 → fld { d with v := u } g = fld d g :=
  ⟨rfl, fun g hg hne => by rcases g with _ | _ | _ | _ | _ | _ | _ | _ | _ | g <;> first | rfl | exact (hne rfl).elim | omega⟩
theorem fld_size (d : Nd) (u : Nat) : fld { d with size := u } 5 = .int .i64 u ∧ ∀ g, g < 9 → g ≠ 5 → fld { d with size := u } g = fld d g :=
  ⟨rfl, fun g hg hne => by rcases g with _ | _ | _ | _ | _ | _ | _ | _ | _ | g <;> first | rfl | exact (hne rfl).elim | omega⟩
theorem fld_first (d : Nd) (u : Nat) : fld { d with first := u } 6 = .int .i64 u ∧ ∀ g, g < 9 → g ≠ 6 → fld { d with first := u } g = fld d g :=
  ⟨rfl, fun g hg hne => by rcases g with _ | _ | _ | _ | _ | _ | _ | _ | _ | g <;> first | rfl | exact (hne rfl).elim | omega⟩
theorem fld_s0 (d : Nd) (u : Nat) : fld { d with s0 := u } 7 = .int .u64 u ∧ ∀ g, g < 9 → g ≠ 7 → fld { d with s0 := u } g = fld d g :=
  ⟨rfl, fun g hg hne => by rcases g with _ | _ | _ | _ | _ | _ | _ | _ | _ | g <;> first | rfl | exact (hne rfl).elim | omega⟩
theorem fld_s1 (d : Nd) (u : Nat) : fld { d with s1 := u } 8 = .int .u64 u ∧ ∀ g, g < 9 → g ≠ 8 → fld { d with s1 := u } g = fld d g :=
  ⟨rfl, fun g hg hne => by rcases g with _ | _ | _ | _ | _ | _ | _ | _ | _ | g <;> first | rfl | exact (hne rfl).elim | omega⟩
theorem SP.kids {w : World} {b s n : Nat} {st : Nat → Nd} (h : SP w b s n st) {i : Nat} (hi : i ≤ n) : w.cell? ⟨s, i * 9, none⟩ = some (.int .i64 ((st i).k0 : Int)) := h.2.cell hi 0 (by decide)
theorem SP.set0 {w : World} {b s n : Nat} {st : Nat → Nd} (h : SP w b s n st) {i : Nat} (hi : i ≤ n) {u : Value} {nd : Nd} (h1 : fld nd 0 = u) (h2 : ∀ g, g < 9 → g ≠ 0 → fld nd g = fld (st i) g) : SP (w.setCell ⟨s, i * 9, none⟩ u) b s n (put st i nd) := h.set_ hi (by decide) h1 h2
end Go.Proofs.Ytgichkjomhnehaa
