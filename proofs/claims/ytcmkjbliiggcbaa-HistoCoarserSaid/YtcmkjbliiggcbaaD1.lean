/-
  slices.Delete of one number.
-/
import Derived.Test.YtcmkjbliiggcbaaA9
import Derived.Deep.RegionLaw
import Derived.Lib.SliceRun
import Derived.Laws.IdiomCopy
set_option linter.unusedVariables false
set_option linter.unusedSimpArgs false
namespace Go.Proofs.Ytcmkjbliiggcbaa
open Go.RowKit Go.Shelf

theorem RowF.setCells {k : IntKind} {g e n : Nat} : ∀ (ys : List Int) (o : Nat) (w : World) (f : Nat → Int), RowF k w g e n f → RowF k (w.setCells g o (ys.map (Value.int k))) g e n (fun j => if o ≤ j ∧ j < o + ys.length then ys.getD (j - o) 0 else f j)
  | [], o, w, f, h => by
    refine RowF.congr (f := f) h (fun i hi => ?_)
    rw [if_neg (by simp)]
  | y :: ys, o, w, f, h => by
    have h1 := RowF.setCells ys (o + 1) _ _ (h.set_ o y)
    rw [List.map_cons, World.setCells]
    refine h1.congr (fun i hi => ?_)
    by_cases a : o + 1 ≤ i ∧ i < o + 1 + ys.length
    · rw [if_pos a, if_pos (by simp; omega)]
      rw [show i - o = (i - (o + 1)) + 1 by omega]; rfl
    · rw [if_neg a]
      by_cases b : i = o
      · subst b; rw [if_pos rfl, if_pos (by simp)]; simp
      · rw [if_neg b, if_neg (by simp; omega)]
theorem Turns.setCells {S : Nat → Prop} {w : World} {g : Nat} (hg : S g) : ∀ (vs : List Value) (o : Nat) (w' : World), Turns S w w' → Turns S w (w'.setCells g o vs)
  | [], _, _, h => h
  | v :: vs, o, w', h => by
    rw [World.setCells]
    exact Turns.setCells hg vs (o + 1) _ (h.setCell (p := ⟨g, o, none⟩) (.inr hg) v)
/-- without number i -/
def del (z : Nat → Int) (i : Nat) : Nat → Int := fun j => if j < i then z j else z (j + 1)
/-- the numbers behind number i -/
def behind (z : Nat → Int) (i n : Nat) : List Int := (List.range (n - (i + 1))).map fun j => z (i + 1 + j)
theorem behind_len (z : Nat → Int) (i n : Nat) : (behind z i n).length = n - (i + 1) := by simp [behind]
theorem behind_get {z : Nat → Int} {i n j : Nat} (h : j < n - (i + 1)) : (behind z i n)[j]? = some (z (i + 1 + j)) := by
  unfold behind; rw [List.getElem?_map, List.getElem?_range h]; rfl

set_option maxRecDepth 100000 in
set_option maxHeartbeats 2000000 in
theorem delete_ok (n cap i s : Nat) (z : Nat → Int) (w : World) (h : RowF .i64 w s 2 n z) (hi : i < n) (hn : n ≤ cap) (hc : cap ≤ 9223372036854775807) :
    Calls Try.prog 48 #[.slice (some ⟨s, 0, none⟩) n cap, .int .i64 i, .int .i64 ((i : Int) + 1)] w fun e w' => e = .returned (.slice (some ⟨s, 0, none⟩) (n - 1) cap) ∧ RowF .i64 w' s 2 (n - 1) (del z i) ∧ Turns (· = s) w w' := by
  obtain ⟨i0, hi0, hz0, hz1, hz2⟩ := info_parts info2
  obtain ⟨news, hnews⟩ : ∃ news, news = (behind z i n).map (Value.int .i64) := ⟨_, rfl⟩
  have hlen : news.length = n - (i + 1) := by rw [hnews]; simp [behind_len]
  have hget : ∀ t, t < n - (i + 1) → news[t]? = some (.int .i64 (z (i + 1 + t))) := fun t ht => by rw [hnews, List.getElem?_map, behind_get ht]; rfl
  obtain ⟨A, hA, hsrc⟩ : ∃ A : Addr, (if cap = i + 1 then some (⟨s, 0, none⟩ : Addr) else some ⟨s, i + 1, none⟩) = some A ∧ Hid (∀ t u, news[t]? = some u → w.drew.cell? (A.add t) = some u) := by
    by_cases hcap : cap = i + 1
    · refine ⟨⟨s, 0, none⟩, by simp [hcap], Lib.hid (fun t u hu => ?_)⟩
      have h0 : news.length = 0 := by rw [hlen]; omega
      rw [List.length_eq_zero_iff.1 h0] at hu
      simp at hu
    · refine ⟨⟨s, i + 1, none⟩, by simp [hcap], Lib.hid (fun t u hu => ?_)⟩
      have ht : t < n - (i + 1) := by
        have := (List.getElem?_eq_some_iff.1 hu).1
        rwa [hlen] at this
      rw [hget t ht] at hu
      rw [Addr.add_lit]
      exact (h.cell (i := i + 1 + t) (by omega)).trans hu
  have s1 := Lib.hid (show news.length = (n - (i + 1)) * 1 by rw [Nat.mul_one]; exact hlen)
  have s2 := Lib.hid (show ∀ u ∈ news, u.oneCell' = true by
    intro u hu
    rw [hnews] at hu
    obtain ⟨x, _, rfl⟩ := List.mem_map.1 hu
    rfl)
  have s3 := Lib.hid (show ∀ t, t < news.length → (w.drew.cell? ⟨s, 0 + i * 1 + t, none⟩).isSome = true ∧ w.drew.frozen? ⟨s, 0 + i * 1 + t, none⟩ = false by
    intro t ht
    rw [hlen] at ht
    rw [Nat.mul_one, Nat.zero_add]
    exact ⟨by show (w.cell? _).isSome = true; rw [h.cell (i := i + t) (by omega)]; rfl, h.frozen _⟩)
  obtain ⟨W1, hW1⟩ : ∃ W1, W1 = w.drew.setCells s (0 + i * 1) news := ⟨_, rfl⟩
  have hR1 : RowF .i64 W1 s 2 n (fun j => if 0 + i * 1 ≤ j ∧ j < 0 + i * 1 + (behind z i n).length then (behind z i n).getD (j - (0 + i * 1)) 0 else z j) := by
    rw [hW1, hnews]; exact RowF.setCells _ _ _ _ h.drew
  have hT1 : Turns (· = s) w W1 := by rw [hW1]; exact Turns.setCells (S := fun x => x = s) rfl _ _ _ (Turns.refl _ _).drew
  have v2 : ∀ w, (zeroValue 2).run Try.prog w = .ok (.int .i64 0) w := fun w => by kernel_rfl
  have hcl : ∀ ty, (Builtin.clear_ #[22] ty #[.slice (some ⟨s, i + (n - (i + 1)), none⟩) (n - (i + (n - (i + 1)))) (cap - (i + (n - (i + 1))))]).run Try.prog W1 = .ok (.tuple #[]) (W1.setCells s (i + (n - (i + 1))) (List.replicate (n - (i + (n - (i + 1)))) (.int .i64 0))) :=
    fun ty => Lib.run_clear_slice W1 22 2 ty _ Try.underlying22 v2 rfl rfl s (i + (n - (i + 1))) _ _ (by omega) (fun t ht => by rw [hR1.cell (by omega)]; rfl) (fun t ht => hR1.frozen _)
  have HR1 := Lib.hid hR1
  have HT1 := Lib.hid hT1
  have hW := Lib.hid hW1
  have hic : i ≤ cap := by omega
  have hjc : i + 1 ≤ cap := by omega
  have hic1 : (i : Int) ≤ (n : Int) := by omega
  have hp0 : (0 : Int) ≤ (i : Int) + 1 := by omega
  have hp1 : (i : Int) + 1 ≤ (n : Int) := by omega
  have hp2 : ((i : Int) + 1).toNat = i + 1 := by omega
  have hne : ((i : Int) == (i : Int) + 1) = false := by simp; omega
  have hnc : (n : Int) ≤ (cap : Int) := by omega
  clear hW1 hR1 hT1 h hget hnews hlen
  go_enter Try.func48, Try.ntmps48
  go_wp2_with fail
  go_region_law (refine step_append_room rfl (.tmp 22) (.tmp 25) 22 rfl 2 i0 1 Try.underlying22 hi0 hz1 s 0 i cap (by simp [Act.eval, Act.put]) A (n - (i + 1)) (cap - (i + 1)) news (by simp [Act.eval, Act.put]) s1.out hsrc.out s2.out (by omega) s3.out ?_; rw [← hW.out])
  go_wp2_with fail
  go_ret
  refine ⟨by rw [show n - 1 = i + (n - (i + 1)) by omega]; rfl, ?_, ?_⟩
  · have R := RowF.setCells (List.replicate (n - (i + (n - (i + 1)))) 0) (i + (n - (i + 1))) _ _ HR1.out
    rw [List.map_replicate] at R
    obtain ⟨cs, c1, c2⟩ := R
    refine ⟨cs, c1, fun j hj => ?_⟩
    rw [c2 j (by omega)]
    simp only []
    rw [if_neg (by omega), behind_len]
    unfold del
    by_cases hji : j < i
    · rw [if_neg (by omega), if_pos hji]
    · rw [if_pos (by omega), if_neg hji, List.getD_eq_getElem?_getD, behind_get (by omega)]
      show _ = some (Value.int .i64 (z (j + 1)))
      rw [show i + 1 + (j - (0 + i * 1)) = j + 1 by omega]; rfl
  · exact Turns.setCells (S := fun x => x = s) rfl _ _ _ HT1.out
end Go.Proofs.Ytcmkjbliiggcbaa
