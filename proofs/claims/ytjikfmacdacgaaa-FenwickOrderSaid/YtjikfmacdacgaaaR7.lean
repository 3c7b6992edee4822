/-
  Copies.
-/
import Derived.Test.YtjikfmacdacgaaaR4
import Derived.Test.YtjikfmacdacgaaaMem2
import Derived.Test.YtjikfmacdacgaaaShelf
import Derived.Maps.AppendAt
set_option linter.unusedVariables false
set_option linter.unusedSimpArgs false
namespace Go.Proofs.Ytjikfmacdacgaaa
open Go.RowKit Go.Shelf Fw

/-- what owns a row, as a block -/
theorem own_blk {w : World} {base n : Nat} {v : Value} {xs : List Value} {e : TypeId} (h : w.ownsRow base e 1 v n xs) (hn : 0 < n) :
    ∃ (g cap : Nat) (cur : Array Value), v = .slice (some ⟨g, 0, none⟩) n cap ∧ base ≤ g ∧ Blk w g e cur ∧ n ≤ cap ∧ ∀ (i : Nat) (u : Value), xs[i]? = some u → (cur : Array Value)[i]? = some u := by
  rcases h.2 with ⟨_, h0⟩ | ⟨g, cap, cur, hv, hg, hh, hc, _, hs, ht⟩
  · omega
  · refine ⟨g, cap, cur, hv, hg, hh, hc, fun i u hu => ?_⟩
    rw [← ht, List.getElem?_take] at hu
    split at hu
    · rw [← Array.getElem?_toList]; exact hu
    · cases hu

theorem own_some {w : World} {base n : Nat} {v : Value} {xs : List Value} {e : TypeId} (h : w.ownsRow base e 1 v n xs) (hv : v ≠ .slice none 0 0) : ∃ ad cap, v = .slice (some ad) n cap := by
  rcases h.2 with ⟨h0, _⟩ | ⟨g, cap, cur, h0, _⟩
  · exact (hv h0).elim
  · exact ⟨_, cap, h0⟩

theorem range_get {n i : Nat} {t : Nat → Int} {u : Value} (h : ((List.range n).map fun i => Value.int .i64 (t i))[i]? = some u) : i < n ∧ u = .int .i64 (t i) := by
  rw [List.getElem?_map] at h
  have hlt : i < n := by
    rcases Nat.lt_or_ge i n with h1 | h1
    · exact h1
    · rw [List.getElem?_eq_none (by simpa using h1)] at h; cases h
  rw [List.getElem?_range hlt] at h
  exact ⟨hlt, by simpa using h.symm⟩

theorem clone_ok (s n c : Nat) (t : Nat → Int) (w : World) (hn : n ≤ 100000) (hc : ∀ i, i < n → w.cell? ⟨s, i, none⟩ = some (.int .i64 (t i))) :
    Calls Try.prog 40 #[.slice (some ⟨s, 0, none⟩) n c] w fun e w' => ∃ v', e = .returned v' ∧ w'.ownsRow w.heap.size 2 1 v' n ((List.range n).map fun i => Value.int .i64 (t i)) ∧ v' ≠ .slice none 0 0 ∧ Below w.heap.size w w' := by
  obtain ⟨i0, hi, hz0, hz1, hz2⟩ := info_parts info2
  refine Try.slices_Clone i0 (.int .i64 0) 1 8 hi hz0 hz1 hz2 rfl (by omega) Try.sizeOf2 s 0 n c _ w (by simp) (by simp only [maxLen]; omega) (by omega) (fun j u hu => ?_) (fun u hu => ?_)
  · obtain ⟨h1, rfl⟩ := range_get hu
    rw [Nat.zero_add]
    exact hc j h1
  · obtain ⟨j, _, rfl⟩ := List.mem_map.1 hu
    rfl

theorem copy_ok (b s n : Nat) (C : Nat → Int) (w : World) (hfc : FC w b s n C) :
    Calls Try.prog 24 #[.pointer (some ⟨b, 0, none⟩)] w fun e w' => ∃ b' s', e = .returned (.pointer (some ⟨b', 0, none⟩)) ∧ FC w' b' s' n C ∧ w.heap.size ≤ b' ∧ w.heap.size ≤ s' ∧ Below w.heap.size w w' := by
  have hn := hfc.hn
  obtain ⟨c, c1, hcn⟩ := hfc.fw.cell1
  go_enter Try.func24, Try.ntmps24
  go_wp2_with (go_at_call 33; refine (valid_ok b s n _ _ hfc.fw).mono ?_; rintro e w' ⟨rfl, rfl⟩)
  refine (clone_ok s (n + 1) c (tree C) _ (by omega) (fun i hi => hfc.fw.at_ (by omega))).mono ?_
  rintro e w1 ⟨v', rfl, hown, _, hb1⟩
  obtain ⟨g, cap, cur, rfl, hg, hblk, hcap, hcur⟩ := own_blk hown (by omega)
  have hcur' : ∀ i, i ≤ n → cur[i]? = some (Value.int .i64 (tree C i)) := fun i hi => hcur i _ (by rw [List.getElem?_map, List.getElem?_range (by omega)]; rfl)
  have HC := Lib.hid hcur'
  clear hcur hcur' hown
  have e2 := Blk.new w1 59 #[.pointer (some ⟨w1.heap.size, 0, none⟩), .slice (some ⟨g, 0, none⟩) (n + 1) cap]
  have e3 := hblk.alloc (.cells #[.pointer (some ⟨w1.heap.size, 0, none⟩), .slice (some ⟨g, 0, none⟩) (n + 1) cap] 59)
  have hz := hb1.size
  go_wp2_with fail
  go_ret
  exact ⟨_, g, rfl, ⟨⟨cap, cur, e2, e3, hcap, HC.out⟩, hn, hfc.good⟩, hz, hg, hb1.alloc hz _⟩

theorem rcopy_no (w : World) : Calls Try.prog 25 #[.pointer none] w fun e w' => e = .returned (.pointer none) ∧ w = w' := by
  go_enter Try.func25, Try.ntmps25
  go_wp2_with (go_at_call 39; refine (rvalid_no _).mono ?_; rintro e w' ⟨rfl, rfl⟩)
  go_ret
  exact ⟨rfl, rfl⟩

theorem rcopy_ok (b s n : Nat) (C : Nat → Int) (w : World) (hr : RC w b s n C) :
    Calls Try.prog 25 #[.pointer (some ⟨b, 0, none⟩)] w fun e w' => ∃ b' s', e = .returned (.pointer (some ⟨b', 0, none⟩)) ∧ RC w' b' s' n C ∧ w.heap.size ≤ b' ∧ w.heap.size ≤ s' ∧ Below w.heap.size w w' := by
  have hn := hr.hn
  obtain ⟨i0, hi, hz0, hz1, hz2⟩ := info_parts info2
  have hb0 := below_new1 w (.cells #[] 2)
  have hr0 := hr.below hb0
  have hown0 : (w.alloc (.cells #[] 2)).ownsRow w.heap.size 2 1 (.slice (some ⟨w.heap.size, 0, none⟩) 0 0) 0 [] :=
    ⟨rfl, .inr ⟨w.heap.size, 0, #[], rfl, Nat.le_refl _, Blk.new w 2 #[], Nat.le_refl _, by simp [maxLen], rfl, rfl⟩⟩
  have hz : (w.alloc (.cells #[] 2)).heap.size = w.heap.size + 1 := by simp
  have hz' : w.heap.size ≤ (w.alloc (.cells #[] 2)).heap.size := by omega
  by_cases hn0 : 0 < n
  · obtain ⟨c, c1, hcn⟩ := hr0.rw.cell1' hn0
    have hnews : ∀ (j : Nat) (u : Value), ((List.range n).map fun i => Value.int .i64 (C i))[j]? = some u → (w.alloc (.cells #[] 2)).cell? ((⟨s, 0, none⟩ : Addr).add j) = some u := fun j u hu => by
      obtain ⟨h1, rfl⟩ := range_get hu
      rw [Addr.add_lit, Nat.zero_add]
      exact hr0.rw.at_ h1
    have HN := Lib.hid hnews
    have h1 : ∀ u ∈ ((List.range n).map fun i => Value.int .i64 (C i)), u.oneCell' = true := fun u hu => by
      obtain ⟨j, _, rfl⟩ := List.mem_map.1 hu
      rfl
    have H1 := Lib.hid h1
    clear hnews h1
    have HZ := Lib.hid hz
    clear hz
    go_enter Try.func25, Try.ntmps25
    go_wp2_with (first
      | (go_at_call 39; refine (rvalid_ok b s n C _ hr.rw).mono ?_; rintro e w' ⟨rfl, rfl⟩)
      | (at_builtin; refine wpList_append_own_at _ rfl _ _ 47 rfl w.heap.size 2 i0 (.int .i64 0) 1 8 Try.underlying47 hi hz0 hz1 hz2 rfl (by decide) (.slice (some ⟨w.heap.size, 0, none⟩) 0 0) 0 [] rfl hown0 ⟨s, 0, none⟩ n c ((List.range n).map fun i => Value.int .i64 (C i)) rfl (by simp) HN.out H1.out (by simp only [maxLen]; omega) (by omega) hz' ?_; intro v' w1 hown' hgrow _ _; obtain ⟨g, cap, cur, rfl, hg, hblk, hcap, hcur⟩ := own_blk hown' (by omega); have HC := Lib.hid hcur; clear hown' hcur))
    have hcur := HC.out
    have hb1 := hb0.grown hgrow hz' (fun k hk => by simp [Value.ownBlock] at hk; omega)
    have hz1' := hb1.size
    have e2 := Blk.new w1 65 #[.bool true, .slice (some ⟨g, 0, none⟩) (0 + n) cap]
    have e3 := hblk.alloc (.cells #[.bool true, .slice (some ⟨g, 0, none⟩) (0 + n) cap] 65)
    rw [Nat.zero_add] at e2 e3 hcap
    go_ret
    exact ⟨_, g, rfl, ⟨⟨_, cap, e2, hcap, fun _ => ⟨rfl, cur, e3, fun i hi => hcur i _ (by rw [List.nil_append, List.getElem?_map, List.getElem?_range hi]; rfl)⟩⟩, hn, hr.good⟩, hz1', hg, hb1.alloc hz1' _⟩
  · obtain rfl : n = 0 := by omega
    obtain ⟨A, c, c1, hcn⟩ := hr0.rw.cell1
    have HZ := Lib.hid hz
    clear hz
    go_enter Try.func25, Try.ntmps25
    go_wp2_with (first
      | (go_at_call 39; refine (rvalid_ok b s 0 C _ hr.rw).mono ?_; rintro e w' ⟨rfl, rfl⟩)
      | (at_builtin; refine wpList_append_own_at _ rfl _ _ 47 rfl w.heap.size 2 i0 (.int .i64 0) 1 8 Try.underlying47 hi hz0 hz1 hz2 rfl (by decide) (.slice (some ⟨w.heap.size, 0, none⟩) 0 0) 0 [] rfl hown0 A 0 c [] rfl (by simp) (by simp) (by simp) (by simp) (by omega) hz' ?_; intro v' w1 hown' hgrow hnil _; obtain ⟨ad, cap, rfl⟩ : ∃ ad cap, v' = .slice (some ad) 0 cap := (own_some hown' (fun hh => by have := (hnil.1 hh).1; cases this)); clear hown' hnil))
    have hb1 := hb0.grown hgrow hz' (fun k hk => by simp [Value.ownBlock] at hk; omega)
    have hz1' := hb1.size
    have e2 := Blk.new w1 65 #[.bool true, .slice (some ad) 0 cap]
    go_ret
    exact ⟨_, w.heap.size, rfl, ⟨⟨_, cap, e2, Nat.zero_le _, fun h => by omega⟩, hn, hr.good⟩, hz1', Nat.le_refl _, hb1.alloc hz1' _⟩

end Go.Proofs.Ytjikfmacdacgaaa
