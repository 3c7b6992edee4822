/-
  Counters in memory; the small functions of package fenwick.
-/
import Derived.Test.YtjikfmacdacgaaaMem
import Derived.Test.YtjikfmacdacgaaaMath
import Derived.Test.YtjikfmacdacgaaaRows
import Derived.WalkKit
import Derived.WalkSpells
import Derived.WalkLawsBesides
import Derived.Lib.Hide
set_option linter.unusedVariables false
set_option linter.unusedSimpArgs false
namespace Go.Proofs.Ytjikfmacdacgaaa
open Go.RowKit

/-- counters in memory: the struct's block b, the tree's block s -/
def FW (w : World) (b s n : Nat) (t : Nat → Int) : Prop :=
  ∃ c cs, Blk w b 59 #[.pointer (some ⟨b, 0, none⟩), .slice (some ⟨s, 0, none⟩) (n + 1) c] ∧ Blk w s 2 cs ∧ n + 1 ≤ c ∧ ∀ i, i ≤ n → cs[i]? = some (Value.int .i64 (t i))

section
variable {w w' : World} {b s n : Nat} {t : Nat → Int}
theorem FW.lt (h : FW w b s n t) : b < w.heap.size ∧ s < w.heap.size := by
  obtain ⟨c, cs, hb, hs, _⟩ := h
  exact ⟨hb.lt, hs.lt⟩
theorem FW.cell0 (h : FW w b s n t) : w.cell? ⟨b, 0, none⟩ = some (.pointer (some ⟨b, 0, none⟩)) := by
  obtain ⟨c, cs, hb, hs, _⟩ := h
  simpa using hb.cell 0
theorem FW.cell1 (h : FW w b s n t) : ∃ c, w.cell? ⟨b, 1, none⟩ = some (.slice (some ⟨s, 0, none⟩) (n + 1) c) ∧ n + 1 ≤ c := by
  obtain ⟨c, cs, hb, hs, hc, _⟩ := h
  exact ⟨c, by simpa using hb.cell 1, hc⟩
theorem FW.at_ (h : FW w b s n t) {i : Nat} (hi : i ≤ n) : w.cell? ⟨s, i, none⟩ = some (.int .i64 (t i)) := by
  obtain ⟨c, cs, hb, hs, _, ht⟩ := h
  rw [hs.cell]
  exact ht i hi
theorem FW.frozen (h : FW w b s n t) (i : Nat) : w.frozen? ⟨s, i, none⟩ = false := by
  obtain ⟨c, cs, hb, hs, _⟩ := h
  exact hs.frozen i
theorem FW.below (h : FW w b s n t) (hb : Below w.heap.size w w') : FW w' b s n t := by
  obtain ⟨c, cs, h1, h2, h3⟩ := h
  exact ⟨c, cs, h1.below hb h1.lt, h2.below hb h2.lt, h3⟩
theorem FW.turns {S : Nat → Prop} (h : FW w b s n t) (ht : Turns S w w') (h1 : ¬ S b) (h2 : ¬ S s) : FW w' b s n t := by
  obtain ⟨c, cs, k1, k2, k3⟩ := h
  exact ⟨c, cs, k1.turns ht h1, k2.turns ht h2, k3⟩
theorem FW.congr {t' : Nat → Int} (h : FW w b s n t) (ht : ∀ i, i ≤ n → t i = t' i) : FW w b s n t' := by
  obtain ⟨c, cs, k1, k2, k3, k4⟩ := h
  exact ⟨c, cs, k1, k2, k3, fun i hi => by rw [k4 i hi, ht i hi]⟩
theorem FW.ne (h : FW w b s n t) : b ≠ s := by
  obtain ⟨c, cs, k1, k2, _⟩ := h
  exact k1.ne_ k2 (by decide)
end

/-- no valid counters: nil, or zero ones -/
def NoFw (w : World) (p : Option Addr) : Prop := p = none ∨ ∃ b, p = some ⟨b, 0, none⟩ ∧ Blk w b 59 #[.pointer none, .slice none 0 0]
theorem NoFw.below {w w' : World} {p : Option Addr} (h : NoFw w p) (hb : Below w.heap.size w w') : NoFw w' p := by
  rcases h with h | ⟨b, h1, h2⟩
  · exact .inl h
  · exact .inr ⟨b, h1, h2.below hb h2.lt⟩

theorem info59 : (Try.prog.info? 59).isSome = true := by kernel_rfl

theorem valid_ok (b s n : Nat) (t : Nat → Int) (w : World) (h : FW w b s n t) :
    Calls Try.prog 33 #[.pointer (some ⟨b, 0, none⟩)] w fun e w' => e = .returned (.bool true) ∧ w = w' := by
  have h0 := h.cell0
  obtain ⟨j, hj⟩ := Option.isSome_iff_exists.1 info59
  have he := run_eql_ptr_same (P := Try.prog) w (⟨b, 0, none⟩ : Addr) Try.underlying24 hj
  clear hj
  go_enter Try.func33, Try.ntmps33
  go_wp2
  go_ret
  exact ⟨rfl, rfl⟩

theorem valid_no (p : Option Addr) (w : World) (h : NoFw w p) :
    Calls Try.prog 33 #[.pointer p] w fun e w' => e = .returned (.bool false) ∧ w = w' := by
  rcases h with rfl | ⟨b, rfl, h⟩
  · go_enter Try.func33, Try.ntmps33
    go_wp2
    go_ret
    exact ⟨rfl, rfl⟩
  · have h0 := h.cell 0
    simp at h0
    have he := run_eql_nil_ptr (P := Try.prog) w (⟨b, 0, none⟩ : Addr) Try.underlying24
    go_enter Try.func33, Try.ntmps33
    go_wp2
    go_ret
    exact ⟨rfl, rfl⟩

theorem len_ok (b s n : Nat) (t : Nat → Int) (w : World) (h : FW w b s n t) (hn : n ≤ 65536) :
    Calls Try.prog 26 #[.pointer (some ⟨b, 0, none⟩)] w fun e w' => e = .returned (.int .i64 n) ∧ w = w' := by
  obtain ⟨c, h1, _⟩ := h.cell1
  go_enter Try.func26, Try.ntmps26
  go_wp2_with (go_at_call 33; refine (valid_ok b s n t _ h).mono ?_; rintro e w' ⟨rfl, rfl⟩)
  go_ret
  exact ⟨rfl, rfl⟩

theorem len_no (p : Option Addr) (w : World) (h : NoFw w p) :
    Calls Try.prog 26 #[.pointer p] w fun e w' => e = .returned (.int .i64 0) ∧ w = w' := by
  go_enter Try.func26, Try.ntmps26
  go_wp2_with (go_at_call 33; refine (valid_no p _ h).mono ?_; rintro e w' ⟨rfl, rfl⟩)
  go_ret
  exact ⟨rfl, rfl⟩

end Go.Proofs.Ytjikfmacdacgaaa
