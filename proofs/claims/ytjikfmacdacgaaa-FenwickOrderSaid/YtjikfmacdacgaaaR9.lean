/-
  filled.
-/
import Derived.Test.YtjikfmacdacgaaaR8
import Derived.Test.YtjikfmacdacgaaaOpen
set_option linter.unusedVariables false
set_option linter.unusedSimpArgs false
namespace Go.Proofs.Ytjikfmacdacgaaa
open Go.RowKit Go.Shelf Fw

theorem FC.congr {w : World} {b s n : Nat} {C D : Nat → Int} (h : FC w b s n C) (hD : ∀ j, j < n → C j = D j) : FC w b s n D := by
  have hp : ∀ k, k ≤ n → pre C k = pre D k := fun k hk => pre_congr k (fun j hj => hD j (by omega))
  refine ⟨h.fw.congr (fun i hi => ?_), h.hn, ⟨fun j hj => by rw [← hD j hj]; exact h.good.nn j hj, by rw [← hp n (Nat.le_refl _)]; exact h.good.tot⟩⟩
  unfold tree
  rw [hp i hi, hp (i - lb i) (by omega)]

theorem pre_bound {C : Nat → Int} {m : Int} (n : Nat) (h : ∀ j, j < n → C j ≤ m) : pre C n ≤ n * m := by
  induction n with
  | zero => simp [pre]
  | succ n ih =>
    have h1 := ih (fun j hj => h j (by omega))
    have h2 := h n (by omega)
    simp only [pre]
    have : ((n + 1 : Nat) : Int) * m = (n : Int) * m + m := by rw [Int.natCast_add, Int.add_mul]; simp
    omega

/-- the first k values, and 0 -/
def cut (z : Nat → Int) (k : Nat) : Nat → Int := fun j => if j < k then z j else 0
theorem cut_upd (z : Nat → Int) (k : Nat) : upd (cut z k) k (z k) = cut z (k + 1) := by
  funext j
  unfold upd cut
  by_cases h : j = k
  · subst h; simp
  · rw [if_neg h]
    by_cases h2 : j < k
    · rw [if_pos h2, if_pos (by omega)]
    · rw [if_neg h2, if_neg (by omega)]

/-- what a list of small numbers is as counters -/
theorem small_good {z : Nat → Int} {n : Nat} (hn : n ≤ 300) (h : ∀ j, j < n → 0 ≤ z j ∧ z j ≤ 65535) : GoodC n z := by
  refine ⟨fun j hj => (h j hj).1, ?_⟩
  have := pre_bound n (fun j hj => (h j hj).2)
  omega
theorem cut_small {z : Nat → Int} {n k : Nat} (h : ∀ j, j < n → 0 ≤ z j ∧ z j ≤ 65535) (hk : k ≤ n) : ∀ j, j < n → 0 ≤ cut z k j ∧ cut z k j ≤ 65535 := by
  intro j hj
  unfold cut
  split
  · exact h j hj
  · omega

theorem filled_ok (n c : Nat) (A : Option Addr) (z : Nat → Int) (hn : n ≤ 300) (w : World) (ha : ArgI .u16 w A n c z) :
    Calls Try.prog 16 #[.slice A n c] w fun e w' => ∃ b s, e = .returned (.pointer (some ⟨b, 0, none⟩)) ∧ FC w' b s n z ∧ w.heap.size ≤ b ∧ w.heap.size ≤ s ∧ Below w.heap.size w w' := by
  have hz : ∀ j, j < n → 0 ≤ z j ∧ z j ≤ 65535 := fun j hj => wf_u16 (ha.2.2.2 j hj)
  have HZ := Lib.hid hz
  clear hz
  have hn63 := ha.2.1
  have hnc := ha.1
  go_enter Try.func16, Try.ntmps16
  go_wp2_with fail
  refine (new_ok n _ (by omega)).mono ?_
  rintro e w1 ⟨b, s, rfl, hf, hb, hs, hv⟩
  go_wp2_with fail
  go_loopw [5] (fun vk wr => ∃ k : Nat, vk = .int .i64 k ∧ k ≤ n ∧ FC wr b s n (cut z k) ∧ Below w.heap.size w wr) (fun vk _ => n - (intOf vk).toNat)
  case atStart => exact ⟨0, rfl, Nat.zero_le _, by have e : cut z 0 = fun _ => 0 := by funext j; simp [cut]
                                                   rw [e]; exact hf, hv⟩
  case round =>
    clear hf hv
    obtain ⟨k, rfl, hk, hf, hv⟩ := hrel
    by_cases hlt : k < n
    · obtain ⟨g, o, rfl, hg, hc⟩ := (ha.below hv).2.2.1 (by omega)
      have hck := hc k hlt
      have hzk := HZ.out k hlt
      have e0 : cut z k k = 0 := by simp [cut]
      have hg1 := (small_good hn (cut_small HZ.out (Nat.le_of_lt hlt)))
      have hp := pre_bound n (fun j hj => (cut_small HZ.out (Nat.le_of_lt hlt) j hj).2)
      have E0 := Lib.hid e0
      clear e0 hc
      go_wp2_with fail
      refine (add_good b s n (cut z k) k (z k) hlt (by omega) (by rw [E0.out]; omega) (by omega) _ hf).mono ?_
      rintro e w2 ⟨rfl, hf2, ht2⟩
      rw [cut_upd] at hf2
      go_wp2_with fail
      go_roundw
      case rel => exact ⟨k + 1, by go_num, by omega, hf2, below_turns hv hv.size ht2 (fun j hj h => by omega)⟩
      case measure => simp [intOf]; omega
    · obtain rfl : k = n := by omega
      go_wp2_with fail
      go_ret
      exact ⟨b, s, rfl, hf.congr (fun j hj => by simp [cut, hj]), hb, hs, hv⟩

end Go.Proofs.Ytjikfmacdacgaaa
