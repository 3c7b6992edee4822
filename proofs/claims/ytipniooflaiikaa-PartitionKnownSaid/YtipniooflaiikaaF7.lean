/-
  PartitionKnown: its calls, of given lists.
-/
import Derived.Test.YtipniooflaiikaaF6
import Derived.Test.YtipniooflaiikaaA9
set_option linter.unusedVariables false
set_option linter.unusedSimpArgs false
namespace Go.Proofs.Ytipniooflaiikaa
open Go.RowKit Go.Shelf

/-- the numbers of a list -/
def zl (l : List Int) : Nat → Int := fun i => l.getD i 0
theorem litc (l : List Int) (i : Nat) (hi : i < l.length) : (l.map (Value.int .i64)).toArray[i]? = some (.int .i64 (zl l i)) := by
  unfold zl
  rw [List.getElem?_toArray, List.getElem?_map, List.getD_eq_getElem?_getD, List.getElem?_eq_getElem hi]
  rfl
theorem litf (l : List Int) (h : ∀ x ∈ l, Fits x) (i : Nat) (hi : i < l.length) : Fits (zl l i) := by
  unfold zl
  rw [List.getD_eq_getElem?_getD, List.getElem?_eq_getElem hi]
  exact h _ (List.getElem_mem hi)
theorem litb {w : World} {g : Nat} {cs : Array Value} (l : List Int) (hb : Blk w g 3 cs) (e : cs = (l.map (Value.int .i64)).toArray) (hn : l.length ≤ 1000) (h : ∀ x ∈ l, Fits x) : ArgI .i64 w (some ⟨g, 0, none⟩) l.length l.length (zl l) :=
  argI_row hb (by omega) (fun i hi => by rw [e]; exact litc l i hi) (litf l h)
theorem lit1 (w : World) (cs : Array Value) (l : List Int) (e : cs = (l.map (Value.int .i64)).toArray) (hn : l.length ≤ 1000) (h : ∀ x ∈ l, Fits x) : ArgI .i64 (w.alloc (.cells cs 3)) (some ⟨w.heap.size, 0, none⟩) l.length l.length (zl l) :=
  litb l (Blk.new w 3 cs) e hn h
theorem lit2a (w : World) (cs ds : Array Value) (l : List Int) (e : cs = (l.map (Value.int .i64)).toArray) (hn : l.length ≤ 1000) (h : ∀ x ∈ l, Fits x) : ArgI .i64 ((w.alloc (.cells cs 3)).alloc (.cells ds 3)) (some ⟨w.heap.size, 0, none⟩) l.length l.length (zl l) :=
  litb l ((Blk.new w 3 cs).alloc _) e hn h
theorem lit2b (w : World) (cs ds : Array Value) (l : List Int) (e : ds = (l.map (Value.int .i64)).toArray) (hn : l.length ≤ 1000) (h : ∀ x ∈ l, Fits x) : ArgI .i64 ((w.alloc (.cells cs 3)).alloc (.cells ds 3)) (some ⟨w.heap.size + 1, 0, none⟩) l.length l.length (zl l) :=
  litb l (Blk.new2 w (.cells cs 3) 3 ds) e hn h
/-- a row as a given list -/
theorem row_zl {w : World} {g n : Nat} {l : List Int} (h : RowF .i64 w g 3 n (zl l)) (hn : n ≤ 1000) (hl : ∀ x ∈ l, Fits x) : ArgI .i64 w (some ⟨g, 0, none⟩) n n (zl l) := row_lit h hn hl
/-- same, of a row and a new list -/
theorem known_same (n c : Nat) (A : Option Addr) (l : List Int) (cs : Array Value) (w : World) (ha : ArgI .i64 w A n c (zl l)) (hl : l.length = n) (e : cs = (l.map (Value.int .i64)).toArray) (hn : n ≤ 1000) (hf : ∀ x ∈ l, Fits x) :
    Calls Try.prog 20 #[.slice A n c, .slice (some ⟨w.heap.size, 0, none⟩) n n] (w.alloc (.cells cs 3)) fun e w' => e = .returned (.bool true) ∧ Below w.heap.size w w' := by
  have b := below_new1 w (.cells cs 3)
  have k := lit1 w cs l e (by omega) hf
  rw [hl] at k
  refine (same_yes n c n A _ (zl l) _ (ha.below b) k (by omega)).mono ?_
  rintro e w' ⟨rfl, m, rfl⟩
  exact ⟨rfl, below_drewN b m⟩
theorem known_canon (w : World) : Calls Try.prog 23 #[.slice (some ⟨w.heap.size, 0, none⟩) 5 5] (w.alloc (.cells #[.int .i64 7, .int .i64 (-1), .int .i64 7, .int .i64 3, .int .i64 (-1)] 3)) fun e w' => ∃ s, e = .returned (.slice (some ⟨s, 0, none⟩) 5 5) ∧ ArgI .i64 w' (some ⟨s, 0, none⟩) 5 5 (zl ([0, 1, 0, 3, 1] : List Int)) ∧ Below w.heap.size w w' := by
  have b := below_new1 w (.cells #[.int .i64 7, .int .i64 (-1), .int .i64 7, .int .i64 3, .int .i64 (-1)] 3)
  refine (canon_ok 5 5 _ (zl ([7, -1, 7, 3, -1] : List Int)) _ (lit1 w _ ([7, -1, 7, 3, -1] : List Int) rfl (by decide) (by decide)) (by decide)).mono ?_
  rintro e w' ⟨s, rfl, hr, _, v⟩
  have hr := hr.congr (f' := zl ([0, 1, 0, 3, 1] : List Int)) (by decide)
  exact ⟨s, rfl, row_zl hr (by decide) (by decide), below_go b (by simp) v⟩
def exD : Nat → Nat | 0 => 0 | 1 => 1 | 2 => 0 | 3 => 3 | _ => 1
theorem known_classes (w : World) (s : Nat) (ha : ArgI .i64 w (some ⟨s, 0, none⟩) 5 5 (zl ([0, 1, 0, 3, 1] : List Int))) : Calls Try.prog 33 #[.slice (some ⟨s, 0, none⟩) 5 5] w fun e w' => ∃ g c B ss, e = .returned (.tuple #[.slice (some ⟨g, 0, none⟩) 3 c, .int .i64 0]) ∧ Cls w' B (.slice (some ⟨g, 0, none⟩) 3 c) [[0, 2], [1, 4], [3]] ss ∧ Below w.heap.size w w' := by
  refine (classes_ok 5 5 _ _ w ha (by decide)).mono ?_
  rintro e w' ⟨B, _, ⟨hno, _⟩ | ⟨a, vo, ss, _, ea, rfl, hC⟩, v⟩
  · exact (hno (by unfold CanZ; decide)).elim
  · have h : cls a 5 5 = [[0, 2], [1, 4], [3]] := by
      rw [cls_congr (b := exD) (fun i hi => by
        have := ea i hi
        rcases i with _ | _ | _ | _ | _ | i <;> first | exact (Int.ofNat_inj.1 this.symm) | omega)]
      decide
    rw [h] at hC
    obtain ⟨A, c, rfl⟩ := hC.slice
    obtain ⟨g, rfl⟩ := hC.base0 (by decide)
    exact ⟨g, c, B, ss, rfl, hC, v⟩
/-- a class -/
theorem known_class {w : World} {B g n c k : Nat} {ls : List (List Nat)} {ss : List Value} (h : Cls w B (.slice (some ⟨g, 0, none⟩) n c) ls ss) (l : List Nat) (z : List Int) (hk : ls[k]? = some l) (hl : ∀ x ∈ l, x ≤ 1000000) (hz : z.length = l.length) (e : ∀ i, i < l.length → ((l.getD i 0 : Nat) : Int) = z.getD i 0) :
    ∃ X d, w.cell? ⟨g, k, none⟩ = some (.slice X l.length d) ∧ ArgI .i64 w X l.length d (zl z) := by
  have hkl := (List.getElem?_eq_some_iff.1 hk).1
  have e1 : ss[k]? = some (ss[k]'(by rw [h.2.1]; exact hkl)) := List.getElem?_eq_getElem _
  have c1 := h.cell e1
  obtain ⟨X, d, v, a⟩ := (h.2.2 k _ _ e1 hk).arg hl
  rw [v] at c1
  exact ⟨X, d, c1, a.congr e⟩
def exE : Nat → Nat | 0 => 0 | 1 => 1 | 2 => 0 | 3 => 3 | _ => 4
theorem known_ref1 (w : World) : Calls Try.prog 29 #[.slice (some ⟨w.heap.size, 0, none⟩) 5 5, .slice (some ⟨w.heap.size + 1, 0, none⟩) 5 5] ((w.alloc (.cells #[.int .i64 0, .int .i64 1, .int .i64 0, .int .i64 3, .int .i64 4] 3)).alloc (.cells #[.int .i64 0, .int .i64 0, .int .i64 0, .int .i64 3, .int .i64 3] 3)) fun e w' => e = .returned (.tuple #[.bool true, .int .i64 0]) ∧ Below w.heap.size w w' := by
  have b := below_new2 w (.cells #[.int .i64 0, .int .i64 1, .int .i64 0, .int .i64 3, .int .i64 4] 3) (.cells #[.int .i64 0, .int .i64 0, .int .i64 0, .int .i64 3, .int .i64 3] 3)
  have k1 := lit2a w #[.int .i64 0, .int .i64 1, .int .i64 0, .int .i64 3, .int .i64 4] #[.int .i64 0, .int .i64 0, .int .i64 0, .int .i64 3, .int .i64 3] ([0, 1, 0, 3, 4] : List Int) rfl (by decide) (by decide)
  have k2 := lit2b w #[.int .i64 0, .int .i64 1, .int .i64 0, .int .i64 3, .int .i64 4] #[.int .i64 0, .int .i64 0, .int .i64 0, .int .i64 3, .int .i64 3] ([0, 0, 0, 3, 3] : List Int) rfl (by decide) (by decide)
  refine (refines_ok 5 5 5 5 _ _ _ _ _ k1 k2 (by decide)).mono ?_
  rintro e w' ⟨⟨hno, _⟩ | ⟨_, u, rfl, hu⟩, m, rfl⟩
  · exact (hno ⟨by unfold CanZ; decide, by unfold CanZ; decide, rfl⟩).elim
  · have hu := hu exE exA (by decide) (by decide)
    have : u = true := by
      have hd : Ref exE exA 5 := by unfold Ref; decide
      exact hu.2 hd
    rw [this]
    exact ⟨rfl, below_drewN b m⟩
theorem known_ref2 (w : World) : Calls Try.prog 29 #[.slice (some ⟨w.heap.size, 0, none⟩) 5 5, .slice (some ⟨w.heap.size + 1, 0, none⟩) 5 5] ((w.alloc (.cells #[.int .i64 0, .int .i64 0, .int .i64 0, .int .i64 3, .int .i64 3] 3)).alloc (.cells #[.int .i64 0, .int .i64 1, .int .i64 0, .int .i64 3, .int .i64 4] 3)) fun e w' => e = .returned (.tuple #[.bool false, .int .i64 0]) ∧ Below w.heap.size w w' := by
  have b := below_new2 w (.cells #[.int .i64 0, .int .i64 0, .int .i64 0, .int .i64 3, .int .i64 3] 3) (.cells #[.int .i64 0, .int .i64 1, .int .i64 0, .int .i64 3, .int .i64 4] 3)
  have k1 := lit2a w #[.int .i64 0, .int .i64 0, .int .i64 0, .int .i64 3, .int .i64 3] #[.int .i64 0, .int .i64 1, .int .i64 0, .int .i64 3, .int .i64 4] ([0, 0, 0, 3, 3] : List Int) rfl (by decide) (by decide)
  have k2 := lit2b w #[.int .i64 0, .int .i64 0, .int .i64 0, .int .i64 3, .int .i64 3] #[.int .i64 0, .int .i64 1, .int .i64 0, .int .i64 3, .int .i64 4] ([0, 1, 0, 3, 4] : List Int) rfl (by decide) (by decide)
  refine (refines_ok 5 5 5 5 _ _ _ _ _ k1 k2 (by decide)).mono ?_
  rintro e w' ⟨⟨hno, _⟩ | ⟨_, u, rfl, hu⟩, m, rfl⟩
  · exact (hno ⟨by unfold CanZ; decide, by unfold CanZ; decide, rfl⟩).elim
  · have hu := hu exA exE (by decide) (by decide)
    have : u = false := by
      have hd : ¬ Ref exA exE 5 := by unfold Ref; decide
      exact Bool.eq_false_iff.2 fun h => hd (hu.1 h)
    rw [this]
    exact ⟨rfl, below_drewN b m⟩
theorem known_check1 (w : World) : Calls Try.prog 21 #[.slice (some ⟨w.heap.size, 0, none⟩) 3 3] (w.alloc (.cells #[.int .i64 0, .int .i64 0, .int .i64 1] 3)) fun e w' => e = .returned (.int .i64 2) ∧ Below w.heap.size w w' := by
  refine (check_ok 3 3 _ (zl ([0, 0, 1] : List Int)) _ (lit1 w _ ([0, 0, 1] : List Int) rfl (by decide) (by decide))).mono ?_
  rintro e w' ⟨⟨_, h⟩ | ⟨rfl, _⟩, rfl⟩
  · exact absurd h (by unfold CanZ; decide)
  · exact ⟨rfl, below_new1 w _⟩
theorem known_check2 (w : World) : Calls Try.prog 21 #[.slice (some ⟨w.heap.size, 0, none⟩) 2 2] (w.alloc (.cells #[.int .i64 0, .int .i64 (-1)] 3)) fun e w' => e = .returned (.int .i64 2) ∧ Below w.heap.size w w' := by
  refine (check_ok 2 2 _ (zl ([0, -1] : List Int)) _ (lit1 w _ ([0, -1] : List Int) rfl (by decide) (by decide))).mono ?_
  rintro e w' ⟨⟨_, h⟩ | ⟨rfl, _⟩, rfl⟩
  · exact absurd h (by unfold CanZ; decide)
  · exact ⟨rfl, below_new1 w _⟩
theorem known_check3 (w : World) : Calls Try.prog 21 #[.slice (some ⟨w.heap.size, 0, none⟩) 2 2] (w.alloc (.cells #[.int .i64 0, .int .i64 2] 3)) fun e w' => e = .returned (.int .i64 2) ∧ Below w.heap.size w w' := by
  refine (check_ok 2 2 _ (zl ([0, 2] : List Int)) _ (lit1 w _ ([0, 2] : List Int) rfl (by decide) (by decide))).mono ?_
  rintro e w' ⟨⟨_, h⟩ | ⟨rfl, _⟩, rfl⟩
  · exact absurd h (by unfold CanZ; decide)
  · exact ⟨rfl, below_new1 w _⟩
theorem known_check4 (w : World) : Calls Try.prog 21 #[.slice none 0 0] w fun e w' => e = .returned (.int .i64 0) ∧ Below w.heap.size w w' := by
  refine (check_ok 0 0 none (fun _ => 0) _ (argI_zero _ _ (by decide) _)).mono ?_
  rintro e w' ⟨⟨rfl, h⟩ | ⟨_, h⟩, rfl⟩
  · exact ⟨rfl, Below.refl _ _⟩
  · exact absurd h (fun h => h (fun i hi => absurd hi (Nat.not_lt_zero i)))
theorem known_meet (w : World) : Calls Try.prog 25 #[.slice (some ⟨w.heap.size, 0, none⟩) 2 2, .slice (some ⟨w.heap.size + 1, 0, none⟩) 1 1] ((w.alloc (.cells #[.int .i64 0, .int .i64 1] 3)).alloc (.cells #[.int .i64 0] 3)) fun e w' => e = .returned (.tuple #[.slice none 0 0, .int .i64 2]) ∧ Below w.heap.size w w' := by
  have b := below_new2 w (.cells #[.int .i64 0, .int .i64 1] 3) (.cells #[.int .i64 0] 3)
  have k1 := lit2a w #[.int .i64 0, .int .i64 1] #[.int .i64 0] ([0, 1] : List Int) rfl (by decide) (by decide)
  have k2 := lit2b w #[.int .i64 0, .int .i64 1] #[.int .i64 0] ([0] : List Int) rfl (by decide) (by decide)
  refine (meet_ok 2 1 2 1 _ _ _ _ _ k1 k2 (by decide)).mono ?_
  rintro e w' (⟨_, rfl, rfl⟩ | ⟨h, _⟩)
  · exact ⟨rfl, b⟩
  · exact absurd h.2.2 (by decide)
theorem known_join (w : World) : Calls Try.prog 27 #[.slice (some ⟨w.heap.size, 0, none⟩) 2 2, .slice (some ⟨w.heap.size + 1, 0, none⟩) 2 2] ((w.alloc (.cells #[.int .i64 1, .int .i64 1] 3)).alloc (.cells #[.int .i64 0, .int .i64 0] 3)) fun e w' => e = .returned (.tuple #[.slice none 0 0, .int .i64 2]) ∧ Below w.heap.size w w' := by
  have b := below_new2 w (.cells #[.int .i64 1, .int .i64 1] 3) (.cells #[.int .i64 0, .int .i64 0] 3)
  have k1 := lit2a w #[.int .i64 1, .int .i64 1] #[.int .i64 0, .int .i64 0] ([1, 1] : List Int) rfl (by decide) (by decide)
  have k2 := lit2b w #[.int .i64 1, .int .i64 1] #[.int .i64 0, .int .i64 0] ([0, 0] : List Int) rfl (by decide) (by decide)
  refine (join_ok 2 2 2 2 _ _ _ _ _ k1 k2 (fun h => by cases h) (by decide)).mono ?_
  rintro e w' (⟨_, rfl, rfl⟩ | ⟨h, _⟩)
  · exact ⟨rfl, b⟩
  · exact absurd h.1 (by unfold CanZ; decide)
theorem known_pairs (w : World) : Calls Try.prog 12 #[.slice (some ⟨w.heap.size, 0, none⟩) 2 2, .slice (some ⟨w.heap.size + 1, 0, none⟩) 2 2] ((w.alloc (.cells #[.int .i64 0, .int .i64 0] 3)).alloc (.cells #[.int .i64 1, .int .i64 1] 3)) fun e w' => e = .returned (.tuple #[.agg #[.int .i64 0, .int .i64 0, .int .i64 0, .int .i64 0], .int .i64 2]) ∧ Below w.heap.size w w' := by
  have b := below_new2 w (.cells #[.int .i64 0, .int .i64 0] 3) (.cells #[.int .i64 1, .int .i64 1] 3)
  have k1 := lit2a w #[.int .i64 0, .int .i64 0] #[.int .i64 1, .int .i64 1] ([0, 0] : List Int) rfl (by decide) (by decide)
  have k2 := lit2b w #[.int .i64 0, .int .i64 0] #[.int .i64 1, .int .i64 1] ([1, 1] : List Int) rfl (by decide) (by decide)
  refine (allpairs_ok 2 2 2 2 _ _ _ _ _ k1 k2 (by decide)).mono ?_
  rintro e w' ⟨⟨_, rfl⟩ | ⟨h, _⟩, v⟩
  · exact ⟨rfl, below_go b (by simp) v⟩
  · exact absurd h.2.1 (by unfold CanZ; decide)
theorem known_rand1 (w : World) : Calls Try.prog 14 #[.slice (some ⟨w.heap.size, 0, none⟩) 1 1, .slice (some ⟨w.heap.size + 1, 0, none⟩) 1 1] ((w.alloc (.cells #[.int .i64 0] 3)).alloc (.cells #[.int .i64 0] 3)) fun e w' => e = .returned (.tuple #[.agg #[.int .i64 1, .int .i64 1], .int .i64 0]) ∧ Below w.heap.size w w' := by
  have b := below_new2 w (.cells #[.int .i64 0] 3) (.cells #[.int .i64 0] 3)
  have k1 := lit2a w #[.int .i64 0] #[.int .i64 0] ([0] : List Int) rfl (by decide) (by decide)
  have k2 := lit2b w #[.int .i64 0] #[.int .i64 0] ([0] : List Int) rfl (by decide) (by decide)
  refine (rand_ok 1 1 1 1 _ _ _ _ _ k1 k2 (by decide)).mono ?_
  rintro e w' ⟨⟨h, _⟩ | ⟨_, _, rfl⟩ | ⟨_, h, _⟩, v⟩
  · exact (h ⟨by unfold CanZ; decide, by unfold CanZ; decide, rfl⟩).elim
  · exact ⟨rfl, below_go b (by simp) v⟩
  · omega
theorem known_rand2 (w : World) : Calls Try.prog 14 #[.slice none 0 0, .slice none 0 0] w fun e w' => e = .returned (.tuple #[.agg #[.int .i64 1, .int .i64 1], .int .i64 0]) ∧ Below w.heap.size w w' := by
  refine (rand_ok 0 0 0 0 none none (fun _ => 0) (fun _ => 0) _ (argI_zero _ _ (by decide) _) (argI_zero _ _ (by decide) _) (by decide)).mono ?_
  rintro e w' ⟨⟨h, _⟩ | ⟨_, _, rfl⟩ | ⟨_, h, _⟩, v⟩
  · exact (h ⟨fun i hi => absurd hi (Nat.not_lt_zero i), fun i hi => absurd hi (Nat.not_lt_zero i), rfl⟩).elim
  · exact ⟨rfl, v⟩
  · omega
theorem known_r0 : q0 (zl ([0, 0] : List Int)) (zl ([0, 1] : List Int)) 2 = 0 ∧ q3 (zl ([0, 0] : List Int)) (zl ([0, 1] : List Int)) 2 = 0 := by decide
theorem known_r1 : redN 0 1 = 0 ∧ redD 0 1 = 1 ∧ redE 0 1 = 0 := by decide +kernel
theorem known_rand3 (w : World) : Calls Try.prog 14 #[.slice (some ⟨w.heap.size, 0, none⟩) 2 2, .slice (some ⟨w.heap.size + 1, 0, none⟩) 2 2] ((w.alloc (.cells #[.int .i64 0, .int .i64 0] 3)).alloc (.cells #[.int .i64 0, .int .i64 1] 3)) fun e w' => e = .returned (.tuple #[.agg #[.int .i64 0, .int .i64 1], .int .i64 0]) ∧ Below w.heap.size w w' := by
  have b := below_new2 w (.cells #[.int .i64 0, .int .i64 0] 3) (.cells #[.int .i64 0, .int .i64 1] 3)
  have k1 := lit2a w #[.int .i64 0, .int .i64 0] #[.int .i64 0, .int .i64 1] ([0, 0] : List Int) rfl (by decide) (by decide)
  have k2 := lit2b w #[.int .i64 0, .int .i64 0] #[.int .i64 0, .int .i64 1] ([0, 1] : List Int) rfl (by decide) (by decide)
  refine (rand_ok 2 2 2 2 _ _ _ _ _ k1 k2 (by decide)).mono ?_
  rintro e w' ⟨⟨h, _⟩ | ⟨_, h, _⟩ | ⟨_, _, rfl⟩, v⟩
  · exact (h ⟨by unfold CanZ; decide, by unfold CanZ; decide, rfl⟩).elim
  · omega
  · refine ⟨?_, below_go b (by simp) v⟩
    show Ending.returned (.tuple #[.agg #[.int .i64 (redN ((q0 (zl ([0, 0] : List Int)) (zl ([0, 1] : List Int)) 2 : Int) + (q3 (zl ([0, 0] : List Int)) (zl ([0, 1] : List Int)) 2 : Int)) (half 2)), .int .i64 (redD ((q0 (zl ([0, 0] : List Int)) (zl ([0, 1] : List Int)) 2 : Int) + (q3 (zl ([0, 0] : List Int)) (zl ([0, 1] : List Int)) 2 : Int)) (half 2))], .int .i64 (redE ((q0 (zl ([0, 0] : List Int)) (zl ([0, 1] : List Int)) 2 : Int) + (q3 (zl ([0, 0] : List Int)) (zl ([0, 1] : List Int)) 2 : Int)) (half 2))]) = _
    rw [known_r0.1, known_r0.2, show half 2 = 1 from rfl, show ((0 : Nat) : Int) + ((0 : Nat) : Int) = 0 from rfl, show ((1 : Nat) : Int) = 1 from rfl, known_r1.1, known_r1.2.1, known_r1.2.2]
theorem known_next1_is {a : Nat → Nat} {t v : Nat} (ea : ∀ i, i < 3 → zl ([0, 1, 1] : List Int) i = (a i : Int)) (h : NextIs a 3 t v) : ∀ i, i < 3 → (nx a t v i : Int) = zl ([0, 1, 2] : List Int) i := by
  have a0 : (0 : Int) = (a 0 : Int) := ea 0 (by decide)
  have a1 : (1 : Int) = (a 1 : Int) := ea 1 (by decide)
  have a2 : (1 : Int) = (a 2 : Int) := ea 2 (by decide)
  have ht : t = 2 := by
    have h1 := h.lt
    have h2 := h.ne
    have h3 := h.last 2
    have h4 : t = 0 ∨ t = 1 ∨ t = 2 ∨ t = 3 := by omega
    rcases h4 with rfl | rfl | rfl | rfl
    all_goals omega
  subst ht
  have hv : v = 2 := by have := h.gt; have := h.le; omega
  subst hv
  intro i hi
  rcases i with _ | _ | _ | i
  · show ((a 0 : Nat) : Int) = 0; omega
  · show ((a 1 : Nat) : Int) = 1; omega
  · rfl
  · omega
theorem known_next1 (w : World) : Calls Try.prog 18 #[.slice (some ⟨w.heap.size, 0, none⟩) 3 3] (w.alloc (.cells #[.int .i64 0, .int .i64 1, .int .i64 1] 3)) fun e w' => ∃ s, e = .returned (.tuple #[.slice (some ⟨s, 0, none⟩) 3 3, .bool true]) ∧ ArgI .i64 w' (some ⟨s, 0, none⟩) 3 3 (zl ([0, 1, 2] : List Int)) ∧ Below w.heap.size w w' := by
  have b := below_new1 w (.cells #[.int .i64 0, .int .i64 1, .int .i64 1] 3)
  refine (next_ok 3 3 _ (zl ([0, 1, 1] : List Int)) _ (lit1 w _ ([0, 1, 1] : List Int) rfl (by decide) (by decide)) (by decide)).mono ?_
  rintro e w' (⟨hno | hno, _⟩ | ⟨a, t, v, s, _, ea, hN, rfl, hr, _, q⟩)
  · exact (hno (by unfold CanZ; decide)).elim
  · exact absurd (hno 2 (by decide)) (by decide)
  · exact ⟨s, rfl, row_zl (hr.congr (known_next1_is ea hN)) (by decide) (by decide), below_go b (by simp) q⟩
theorem known_next2 (w : World) : Calls Try.prog 18 #[.slice (some ⟨w.heap.size, 0, none⟩) 3 3] (w.alloc (.cells #[.int .i64 0, .int .i64 1, .int .i64 2] 3)) fun e w' => e = .returned (.tuple #[.slice none 0 0, .bool false]) ∧ Below w.heap.size w w' := by
  have b := below_new1 w (.cells #[.int .i64 0, .int .i64 1, .int .i64 2] 3)
  refine (next_ok 3 3 _ (zl ([0, 1, 2] : List Int)) _ (lit1 w _ ([0, 1, 2] : List Int) rfl (by decide) (by decide)) (by decide)).mono ?_
  rintro e w' (⟨_, rfl, v⟩ | ⟨a, t, v, s, hc, ea, hN, _⟩)
  · exact ⟨rfl, below_go b (by simp) v⟩
  · have h1 := hN.lt
    have h2 := ea t h1
    have h3 : ∀ i, i < 3 → zl ([0, 1, 2] : List Int) i = (i : Int) := by decide
    rw [h3 t h1] at h2
    exact (hN.ne (Int.ofNat_inj.1 h2.symm)).elim
theorem known_next3 (w : World) : Calls Try.prog 18 #[.slice (some ⟨w.heap.size, 0, none⟩) 1 1] (w.alloc (.cells #[.int .i64 1] 3)) fun e w' => e = .returned (.tuple #[.slice none 0 0, .bool false]) ∧ Below w.heap.size w w' := by
  have b := below_new1 w (.cells #[.int .i64 1] 3)
  refine (next_ok 1 1 _ (zl ([1] : List Int)) _ (lit1 w _ ([1] : List Int) rfl (by decide) (by decide)) (by decide)).mono ?_
  rintro e w' (⟨_, rfl, v⟩ | ⟨a, t, v, s, hc, ea, hN, _⟩)
  · exact ⟨rfl, below_go b (by simp) v⟩
  · exact absurd (show CanZ (zl ([1] : List Int)) 1 from (CanZ.of hc).congr fun i hi => (ea i hi).symm) (by unfold CanZ; decide)
theorem known_next4_is {a : Nat → Nat} {t v : Nat} (ea : ∀ i, i < 4 → zl ([0, 0, 2, 2] : List Int) i = (a i : Int)) (h : NextIs a 4 t v) : ∀ i, i < 4 → (nx a t v i : Int) = zl ([0, 0, 2, 3] : List Int) i := by
  have a0 : (0 : Int) = (a 0 : Int) := ea 0 (by decide)
  have a1 : (0 : Int) = (a 1 : Int) := ea 1 (by decide)
  have a2 : (2 : Int) = (a 2 : Int) := ea 2 (by decide)
  have a3 : (2 : Int) = (a 3 : Int) := ea 3 (by decide)
  have ht : t = 3 := by
    have h1 := h.lt
    have h2 := h.ne
    have h3 := h.last 3
    have h4 : t = 0 ∨ t = 1 ∨ t = 2 ∨ t = 3 := by omega
    rcases h4 with rfl | rfl | rfl | rfl
    all_goals omega
  subst ht
  have hv : v = 3 := by have := h.gt; have := h.le; omega
  subst hv
  intro i hi
  rcases i with _ | _ | _ | _ | i
  · show ((a 0 : Nat) : Int) = 0; omega
  · show ((a 1 : Nat) : Int) = 0; omega
  · show ((a 2 : Nat) : Int) = 2; omega
  · rfl
  · omega
theorem known_next4 (w : World) : Calls Try.prog 18 #[.slice (some ⟨w.heap.size, 0, none⟩) 4 4] (w.alloc (.cells #[.int .i64 0, .int .i64 0, .int .i64 2, .int .i64 2] 3)) fun e w' => ∃ s, e = .returned (.tuple #[.slice (some ⟨s, 0, none⟩) 4 4, .bool true]) ∧ ArgI .i64 w' (some ⟨s, 0, none⟩) 4 4 (zl ([0, 0, 2, 3] : List Int)) ∧ Below w.heap.size w w' := by
  have b := below_new1 w (.cells #[.int .i64 0, .int .i64 0, .int .i64 2, .int .i64 2] 3)
  refine (next_ok 4 4 _ (zl ([0, 0, 2, 2] : List Int)) _ (lit1 w _ ([0, 0, 2, 2] : List Int) rfl (by decide) (by decide)) (by decide)).mono ?_
  rintro e w' (⟨hno | hno, _⟩ | ⟨a, t, v, s, _, ea, hN, rfl, hr, _, q⟩)
  · exact (hno (by unfold CanZ; decide)).elim
  · exact absurd (hno 3 (by decide)) (by decide)
  · exact ⟨s, rfl, row_zl (hr.congr (known_next4_is ea hN)) (by decide) (by decide), below_go b (by simp) q⟩
end Go.Proofs.Ytipniooflaiikaa
