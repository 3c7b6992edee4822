/-
  same; the chapter's example.
-/
import Derived.Test.YtgichkjomhnehaaW18
set_option linter.unusedVariables false
set_option linter.unusedSimpArgs false
namespace Go.Proofs.Ytgichkjomhnehaa
open Go.RowKit Go.Shelf

theorem ArgI.congr {k : IntKind} {w : World} {A : Option Addr} {n c : Nat} {z y : Nat → Int} (h : ArgI k w A n c z) (e : ∀ i, i < n → z i = y i) : ArgI k w A n c y := by
  obtain ⟨h1, h2, h3, h4⟩ := h
  refine ⟨h1, h2, fun hn => ?_, fun i hi => by rw [← e i hi]; exact h4 i hi⟩
  obtain ⟨g, o, e', hg, hc⟩ := h3 hn
  exact ⟨g, o, e', hg, fun i hi => by rw [← e i hi]; exact hc i hi⟩
set_option maxRecDepth 100000 in
set_option maxHeartbeats 1000000 in
theorem same_yes (n ca cb : Nat) (A B : Option Addr) (z : Nat → Int) (w : World) (ha : ArgI .i64 w A n ca z) (hb : ArgI .i64 w B n cb z) (hn : n ≤ 100000) :
    Calls Try.prog 17 #[.slice A n ca, .slice B n cb] w fun e w' => e = .returned (.bool true) ∧ ∃ m, w' = w.drewN m := by
  go_enter Try.func17, Try.ntmps17
  go_wp2_with fail
  go_loopw [5] (fun vi wr => ∃ k : Nat, vi = .int .i64 k ∧ k ≤ n ∧ ∃ m, wr = w.drewN m) (fun vi _ => n - (intOf vi).toNat)
  case atStart => exact ⟨0, rfl, Nat.zero_le _, 0, rfl⟩
  case round =>
    obtain ⟨k, rfl, hk, m, rfl⟩ := hrel
    by_cases hlt : k < n
    · obtain ⟨g, o, rfl, hg, hcell⟩ := ha.2.2.1 (by omega)
      obtain ⟨g', o', rfl, hg', hcell'⟩ := hb.2.2.1 (by omega)
      have c1 := hcell k hlt
      have c2 := hcell' k hlt
      have hkn : (k : Int) < (n : Int) := by omega
      have hcn := ha.1
      have hcn' := hb.1
      clear hcell hcell'
      go_wp2_with fail
      go_quiet (fail)
      go_wp2_with fail
      go_roundw
      case rel => exact ⟨k + 1, by simp, by omega, m + nq, by first | rfl | simp⟩
      case measure => simp [intOf]; omega
    · obtain rfl : k = n := by omega
      go_wp2_with fail
      go_ret
      exact ⟨rfl, m, rfl⟩
/-- both lists are the same -/
def SameZ (n m : Nat) (z y : Nat → Int) : Prop := n = m ∧ ∀ j, j < n → z j = y j
set_option maxRecDepth 100000 in
set_option maxHeartbeats 1000000 in
theorem same_any (n m ca cb : Nat) (A B : Option Addr) (z y : Nat → Int) (w : World) (ha : ArgI .i64 w A n ca z) (hb : ArgI .i64 w B m cb y) (hn : n ≤ 100000) :
    Calls Try.prog 17 #[.slice A n ca, .slice B m cb] w fun e w' => ((e = .returned (.bool true) ∧ SameZ n m z y) ∨ (e = .returned (.bool false) ∧ ¬ SameZ n m z y)) ∧ ∃ m, w' = w.drewN m := by
  by_cases hnm : n = m
  · subst hnm
    go_enter Try.func17, Try.ntmps17
    go_wp2_with fail
    go_loopw [5] (fun vi wr => ∃ k : Nat, vi = .int .i64 k ∧ k ≤ n ∧ Hid (∀ j, j < k → z j = y j) ∧ ∃ m, wr = w.drewN m) (fun vi _ => n - (intOf vi).toNat)
    case atStart => exact ⟨0, rfl, Nat.zero_le _, Lib.hid (fun j hj => by omega), 0, rfl⟩
    case round =>
      obtain ⟨k, rfl, hk, HJ, m, rfl⟩ := hrel
      by_cases hlt : k < n
      · obtain ⟨g, o, rfl, hg, hcell⟩ := ha.2.2.1 (by omega)
        obtain ⟨g', o', rfl, hg', hcell'⟩ := hb.2.2.1 (by omega)
        have c1 := hcell k hlt
        have c2 := hcell' k hlt
        have hkn : (k : Int) < (n : Int) := by omega
        have hcn := ha.1
        have hcn' := hb.1
        clear hcell hcell'
        obtain ⟨u, hu⟩ : ∃ u, z k = u := ⟨_, rfl⟩
        obtain ⟨v, hv⟩ : ∃ v, y k = v := ⟨_, rfl⟩
        have HU := Lib.hid (And.intro hu hv)
        rw [hu] at c1
        rw [hv] at c2
        clear hu hv
        by_cases huv : u = v
        · have HJ2 := Lib.hid (show ∀ j, j < k + 1 → z j = y j from fun j hj => by
            rcases Nat.lt_or_ge j k with h1 | h1
            · exact HJ.out j h1
            · obtain rfl : j = k := by omega
              rw [HU.out.1, HU.out.2]; exact huv)
          subst huv
          go_wp2_with fail
          go_quiet (fail)
          go_wp2_with fail
          go_roundw
          case rel => exact ⟨k + 1, by simp, by omega, HJ2, m + nq, by first | rfl | simp⟩
          case measure => simp [intOf]; omega
        · have HD := Lib.hid (show ¬ SameZ n n z y from fun h => huv (by have := h.2 k hlt; rw [HU.out.1, HU.out.2] at this; exact this))
          have huv1 : (u == v) = false := by simpa using huv
          go_wp2_with fail
          go_quiet (fail)
          go_wp2_with fail
          go_ret
          exact ⟨Or.inr ⟨rfl, HD.out⟩, m + nq, by first | rfl | simp⟩
      · obtain rfl : k = n := by omega
        go_wp2_with fail
        go_ret
        exact ⟨Or.inl ⟨rfl, rfl, HJ.out⟩, m, rfl⟩
  · have hnm1 : ((n : Int) == (m : Int)) = false := by simp; omega
    have HD := Lib.hid (show ¬ SameZ n m z y from fun h => hnm h.1)
    have hnm2 : ¬ (n : Int) = (m : Int) := by omega
    clear hnm
    go_enter Try.func17, Try.ntmps17
    go_wp2_with fail
    go_ret
    exact ⟨Or.inr ⟨rfl, HD.out⟩, 0, rfl⟩

/-- the numbers of a list -/
def zl (l : List Int) : Nat → Int := fun i => l.getD i 0
theorem litc (l : List Int) (i : Nat) (hi : i < l.length) : (l.map (Value.int .i64)).toArray[i]? = some (.int .i64 (zl l i)) := by
  unfold zl
  rw [List.getElem?_toArray, List.getElem?_map, List.getD_eq_getElem?_getD, List.getElem?_eq_getElem hi]
  rfl
theorem litf (l : List Int) (h : ∀ x ∈ l, Fits x) (i : Nat) (hi : i < l.length) : Fits (zl l i) := by
  unfold zl
  rw [List.getD_eq_getElem?_getD, List.getElem?_eq_getElem hi]
  exact h _ (List.getElem_mem hi)
theorem litb {w : World} {g : Nat} {cs : Array Value} (l : List Int) (hb : Blk w g 3 cs) (e : cs = (l.map (Value.int .i64)).toArray) (hn : l.length ≤ 1000) (h : ∀ x ∈ l, Fits x) : ArgI .i64 w (some ⟨g, 0, none⟩) l.length l.length (zl l) :=
  argI_row hb (by omega) (fun i hi => by rw [e]; exact litc l i hi) (litf l h)
theorem lit1 (w : World) (cs : Array Value) (l : List Int) (e : cs = (l.map (Value.int .i64)).toArray) (hn : l.length ≤ 1000) (h : ∀ x ∈ l, Fits x) : ArgI .i64 (w.alloc (.cells cs 3)) (some ⟨w.heap.size, 0, none⟩) l.length l.length (zl l) :=
  litb l (Blk.new w 3 cs) e hn h
theorem lit2a (w : World) (cs ds : Array Value) (l : List Int) (e : cs = (l.map (Value.int .i64)).toArray) (hn : l.length ≤ 1000) (h : ∀ x ∈ l, Fits x) : ArgI .i64 ((w.alloc (.cells cs 3)).alloc (.cells ds 3)) (some ⟨w.heap.size, 0, none⟩) l.length l.length (zl l) :=
  litb l ((Blk.new w 3 cs).alloc _) e hn h
theorem lit2b (w : World) (cs ds : Array Value) (l : List Int) (e : ds = (l.map (Value.int .i64)).toArray) (hn : l.length ≤ 1000) (h : ∀ x ∈ l, Fits x) : ArgI .i64 ((w.alloc (.cells cs 3)).alloc (.cells ds 3)) (some ⟨w.heap.size + 1, 0, none⟩) l.length l.length (zl l) :=
  litb l (Blk.new2 w (.cells cs 3) 3 ds) e hn h
/-- same, of a row and a new list -/
theorem known_same (n c : Nat) (A : Option Addr) (l : List Int) (cs : Array Value) (w : World) (ha : ArgI .i64 w A n c (zl l)) (hl : l.length = n) (e : cs = (l.map (Value.int .i64)).toArray) (hn : n ≤ 1000) (hf : ∀ x ∈ l, Fits x) :
    Calls Try.prog 17 #[.slice A n c, .slice (some ⟨w.heap.size, 0, none⟩) n n] (w.alloc (.cells cs 3)) fun e w' => e = .returned (.bool true) ∧ Below w.heap.size w w' := by
  have b := below_new1 w (.cells cs 3)
  have k := lit1 w cs l e (by omega) hf
  rw [hl] at k
  refine (same_yes n c n A _ (zl l) _ (ha.below b) k (by omega)).mono ?_
  rintro e w' ⟨rfl, m, rfl⟩
  exact ⟨rfl, below_drewN b m⟩
/-- a list that came out, as given numbers -/
theorem row_list {w : World} {B : Nat} {v : Value} {l : List Nat} (h : RowL w B v l) (z : List Int) (hl : ∀ x ∈ l, x ≤ 1000000) (e : ∀ i, i < l.length → ((l.getD i 0 : Nat) : Int) = z.getD i 0) : ∃ A c, v = .slice A l.length c ∧ ArgI .i64 w A l.length c (zl z) := by
  obtain ⟨A, c, hv, ha⟩ := h.arg hl
  exact ⟨A, c, hv, ha.congr e⟩
def ex0 : Nat → List Nat := fun x => [x]
def ex4 : Nat → List Nat := joinQ (joinQ (joinQ (joinQ ex0 0 1) 1 2) 3 4) 2 3
def ex5 : Nat → List Nat := revQ ex4 2
def ex6 : Nat → List Nat := splitQ ex5 1 3
theorem ex_facts : 1 ∉ ex0 0 ∧ 2 ∉ joinQ ex0 0 1 1 ∧ 4 ∉ joinQ (joinQ ex0 0 1) 1 2 3 ∧ 3 ∉ joinQ (joinQ (joinQ ex0 0 1) 1 2) 3 4 2 ∧ ex5 1 = [4, 3, 2, 1, 0] ∧ ex6 1 = [1, 0] ∧ ex6 3 = [4, 3, 2] := by decide
theorem below_step {s : Nat} {w a c : World} (h : Below w.heap.size w a) (hs : w.heap.size ≤ s) (hT : Turns (· = s) a c) : Below w.heap.size w c := below_turns h h.size hT (fun i hi e => by omega)
set_option maxRecDepth 100000 in
set_option maxHeartbeats 2000000 in
theorem works_ok (w : World) : Calls Try.prog 18 #[] w fun e w' => e = .returned (.bool true) ∧ Below w.heap.size w w' := by
  have hX := Lib.hid ex_facts
  have x : Calls Try.prog 21 #[.int .i64 5] w _ := new_ok 5 w (by decide)
  go_enter Try.func18, Try.ntmps18
  go_wp2_with fail
  refine x.mono ?_
  rintro e w1 ⟨b, s, rfl, h, hb, hs, q⟩
  clear x
  have h : SQ w1 b s 5 ex0 (fun _ => 0) := h
  have x : Calls Try.prog 20 #[.pointer (some ⟨b, 0, none⟩), .int .i64 0, .int .i64 1] w1 _ := join_ok b s 5 _ _ 0 1 w1 h (by decide) (by decide) hX.out.1
  go_wp2_with fail
  refine x.mono ?_
  rintro e w2 ⟨rfl, h, hT⟩
  have q := below_step q hs hT
  clear x hT
  have x : Calls Try.prog 20 #[.pointer (some ⟨b, 0, none⟩), .int .i64 1, .int .i64 2] w2 _ := join_ok b s 5 _ _ 1 2 w2 h (by decide) (by decide) hX.out.2.1
  go_wp2_with fail
  refine x.mono ?_
  rintro e w3 ⟨rfl, h, hT⟩
  have q := below_step q hs hT
  clear x hT
  have x : Calls Try.prog 20 #[.pointer (some ⟨b, 0, none⟩), .int .i64 3, .int .i64 4] w3 _ := join_ok b s 5 _ _ 3 4 w3 h (by decide) (by decide) hX.out.2.2.1
  go_wp2_with fail
  refine x.mono ?_
  rintro e w4 ⟨rfl, h, hT⟩
  have q := below_step q hs hT
  clear x hT
  have x : Calls Try.prog 20 #[.pointer (some ⟨b, 0, none⟩), .int .i64 2, .int .i64 3] w4 _ := join_ok b s 5 _ _ 2 3 w4 h (by decide) (by decide) hX.out.2.2.2.1
  go_wp2_with fail
  refine x.mono ?_
  rintro e w5 ⟨rfl, h, hT⟩
  have q := below_step q hs hT
  clear x hT
  have h : SQ w5 b s 5 ex4 (fun _ => 0) := h
  have x : Calls Try.prog 26 #[.pointer (some ⟨b, 0, none⟩), .int .i64 2] w5 _ := reverse_ok b s 5 _ _ 2 w5 h (by decide)
  go_wp2_with fail
  refine x.mono ?_
  rintro e w6 ⟨rfl, h, hT⟩
  have q := below_step q hs hT
  clear x hT
  have h : SQ w6 b s 5 ex5 (fun _ => 0) := h
  have x : Calls Try.prog 16 #[.pointer (some ⟨b, 0, none⟩), .int .i64 1] w6 _ := split_ok b s 5 _ _ 1 w6 h (by decide)
  go_wp2_with fail
  refine x.mono ?_
  rintro e w7 ⟨k, hk, rfl, h, hT⟩
  have q := below_step q hs hT
  have hk3 : k = 3 := by
    unfold IsPos at hk
    rw [hX.out.2.2.2.2.1] at hk
    exact nodup_idx (l := [4, 3, 2, 1, 0]) (by decide) hk rfl
  subst hk3
  clear x hT hk
  have h : SQ w7 b s 5 ex6 (fun _ => 0) := h
  have x : Calls Try.prog 14 #[.pointer (some ⟨b, 0, none⟩), .int .i64 1] w7 _ := list_ok b s 5 _ _ 1 w7 h (by decide)
  go_wp2_with fail
  refine x.mono ?_
  rintro e w8 ⟨v, rfl, r, h, hT⟩
  have q := below_step q hs hT
  rw [hX.out.2.2.2.2.2.1] at r
  obtain ⟨A, c, rfl, ha⟩ := row_list r [1, 0] (by decide) (by decide)
  clear x hT r
  have x := known_same 2 c A [1, 0] #[.int .i64 1, .int .i64 0] w8 ha rfl rfl (by decide) (by decide)
  have hq := q.size
  go_wp2_with fail
  refine x.mono ?_
  rintro e w9 ⟨rfl, v⟩
  have h := h.below v
  have q := below_end q hq v
  clear x v ha
  have x : Calls Try.prog 14 #[.pointer (some ⟨b, 0, none⟩), .int .i64 3] w9 _ := list_ok b s 5 _ _ 3 w9 h (by decide)
  go_wp2_with fail
  refine x.mono ?_
  rintro e w10 ⟨v, rfl, r, h, hT⟩
  have q := below_step q hs hT
  rw [hX.out.2.2.2.2.2.2] at r
  obtain ⟨A, c, rfl, ha⟩ := row_list r [4, 3, 2] (by decide) (by decide)
  clear x hT r
  have x := known_same 3 c A [4, 3, 2] #[.int .i64 4, .int .i64 3, .int .i64 2] w10 ha rfl rfl (by decide) (by decide)
  have hq := q.size
  go_wp2_with fail
  refine x.mono ?_
  rintro e w11 ⟨rfl, v⟩
  have h := h.below v
  have q := below_end q hq v
  clear x v ha
  have x : Calls Try.prog 15 #[.pointer (some ⟨b, 0, none⟩), .int .i64 3] w11 _ := pos_ok b s 5 _ _ 3 w11 h (by decide)
  go_wp2_with fail
  refine x.mono ?_
  rintro e w12 ⟨k, rfl, hk, h, hT⟩
  have q := below_step q hs hT
  have hk1 : k = 1 := by
    unfold IsPos at hk
    rw [hX.out.2.2.2.2.2.2] at hk
    exact nodup_idx (l := [4, 3, 2]) (by decide) hk rfl
  subst hk1
  clear x hT hk
  go_wp2_with fail
  go_ret
  exact ⟨rfl, q⟩
end Go.Proofs.Ytgichkjomhnehaa
