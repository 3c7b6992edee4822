/-
  The chapter's examples: works.
-/
import Derived.Test.YtipniooflaiikaaA7
import Derived.Test.YtipniooflaiikaaA8
import Derived.Laws.StructEq
import Derived.ChangeKeysEq
set_option linter.unusedVariables false
set_option linter.unusedSimpArgs false
namespace Go.Proofs.Ytipniooflaiikaa
open Go.RowKit Go.Shelf

theorem eq_step (d : Nat) (xs ys : Array Value) (i : Nat) (is : List Nat) (a b : Int) (ha : xs[i * 1]? = some (.int .i64 a)) (hb : ys[i * 1]? = some (.int .i64 b)) (w : World) :
    (Op.eqItems (d + 1) 2 1 xs ys (i :: is)).run Try.prog w = if a == b then (Op.eqItems (d + 1) 2 1 xs ys is).run Try.prog w else .ok false w := by
  have hp : Try.prog.plainKey 2 = true := by kernel_rfl
  simp only [Op.eqItems, Sem.run_bind, run_part_plain w hp ha, run_part_plain w hp hb, Result.andThen_ok, run_equalIn_int w d 2 .i64 .i64 a b Try.underlying2]
  cases (a == b) <;> simp
/-- equality of arrays of four -/
theorem eq23 (a0 a1 a2 a3 b0 b1 b2 b3 : Int) (w : World) :
    (Op.equalIn 10000 23 (.agg #[.int .i64 a0, .int .i64 a1, .int .i64 a2, .int .i64 a3]) (.agg #[.int .i64 b0, .int .i64 b1, .int .i64 b2, .int .i64 b3])).run Try.prog w = .ok (a0 == b0 && (a1 == b1 && (a2 == b2 && a3 == b3))) w := by
  obtain ⟨i0, hi, _, _, _⟩ := info_parts (P := Try.prog) (e := 2) (z := .int .i64 0) (size := 1) (bytes := 8) (by kernel_rfl)
  rw [show (10000 : Nat) = 9999 + 1 from rfl, run_equalIn_array w 9999 _ _ Try.underlying23 hi]
  have hc : Try.prog.cellsOf 2 = 1 := by kernel_rfl
  rw [hc, show List.range 4 = [0, 1, 2, 3] from rfl]
  rw [eq_step 9998 _ _ 0 _ a0 b0 rfl rfl, eq_step 9998 _ _ 1 _ a1 b1 rfl rfl, eq_step 9998 _ _ 2 _ a2 b2 rfl rfl, eq_step 9998 _ _ 3 _ a3 b3 rfl rfl]
  cases a0 == b0 <;> cases a1 == b1 <;> cases a2 == b2 <;> cases a3 == b3 <;> rfl

def exA : Nat → Nat | 0 => 0 | 1 => 0 | 2 => 0 | _ => 3
def exB : Nat → Nat | 0 => 0 | 1 => 1 | 2 => 0 | 3 => 1 | _ => 4
def exC : Nat → Nat | 0 => 0 | 1 => 0 | 2 => 2 | _ => 3
def zA : Nat → Int := fun i => (exA i : Int)
def zB : Nat → Int := fun i => (exB i : Int)
def zC : Nat → Int := fun i => (exC i : Int)
theorem two_ex : Two 5 5 zA zB := by
  refine ⟨?_, ?_, rfl⟩ <;> (unfold CanZ; decide)
theorem can_exC : CanZ zC 4 := by unfold CanZ; decide
theorem meet_ex : ∀ i, i < 5 → (can (eqP zA zB) i : Int) = ([0, 1, 0, 3, 4] : List Int).getD i 0 := by decide
theorem join_ex : IsJoin exA exB 5 (fun _ => 0) := by
  have n01 : Near exA exB 5 0 1 := ⟨by decide, by decide, Or.inl rfl⟩
  have n02 : Near exA exB 5 0 2 := ⟨by decide, by decide, Or.inl rfl⟩
  have n13 : Near exA exB 5 1 3 := ⟨by decide, by decide, Or.inr rfl⟩
  have n34 : Near exA exB 5 3 4 := ⟨by decide, by decide, Or.inl rfl⟩
  have c1 : Con (Near exA exB 5) 0 1 := .step n01
  have c3 : Con (Near exA exB 5) 0 3 := c1.trans (.step n13)
  refine ⟨fun i hi => Nat.zero_le _, fun i hi => ?_, fun i j _ => rfl⟩
  rcases i with _ | _ | _ | _ | _ | i
  · exact .refl 0
  · exact c1
  · exact .step n02
  · exact c3
  · exact c3.trans (.step n34)
  · omega
theorem next_ex {a : Nat → Nat} {t v : Nat} (ea : ∀ i, i < 4 → zC i = (a i : Int)) (h : NextIs a 4 t v) : ∀ i, i < 4 → (nx a t v i : Int) = ([0, 1, 0, 0] : List Int).getD i 0 := by
  have a0 : (0 : Int) = (a 0 : Int) := ea 0 (by decide)
  have a1 : (0 : Int) = (a 1 : Int) := ea 1 (by decide)
  have a2 : (2 : Int) = (a 2 : Int) := ea 2 (by decide)
  have a3 : (3 : Int) = (a 3 : Int) := ea 3 (by decide)
  have ht : t = 1 := by
    have h1 := h.lt
    have h2 := h.ne
    have h3 := h.last 1
    rcases t with _ | _ | _ | _ | t
    · exact absurd (by omega : a 0 = 0) h2
    · rfl
    · exact absurd (by omega : a 2 = 2) h2
    · exact absurd (by omega : a 3 = 3) h2
    · omega
  subst ht
  have hv : v = 1 := by have := h.gt; have := h.le; omega
  subst hv
  intro i hi
  rcases i with _ | _ | _ | _ | i
  · show ((a 0 : Nat) : Int) = 0; omega
  · rfl
  · rfl
  · rfl
  · omega
theorem pairs_ex : q0 zA zB 5 = 1 ∧ q1 zA zB 5 = 3 ∧ q2 zA zB 5 = 1 ∧ q3 zA zB 5 = 5 := by decide
theorem rand_ex : redN 6 10 = 3 ∧ redD 6 10 = 5 ∧ redE 6 10 = 0 := by decide +kernel
theorem row_lit {w : World} {g n : Nat} {l : List Int} (h : RowF .i64 w g 3 n (fun i => l.getD i 0)) (hn : n ≤ 1000) (hl : ∀ x ∈ l, Fits x) : ArgI .i64 w (some ⟨g, 0, none⟩) n n (fun i => l.getD i 0) :=
  h.arg (by omega) (fun i hi => fits_wf (by
    rw [List.getD_eq_getElem?_getD]
    cases hx : l[i]? with
    | none => exact ⟨by decide, by decide⟩
    | some x => exact hl x (List.mem_of_getElem? hx)))
theorem list_arg {w : World} {g : Nat} {cs : Array Value} {n : Nat} {z : Nat → Int} (hb : Blk w g 3 cs) (hn : n ≤ 1000) (hc : ∀ i, i < n → cs[i]? = some (.int .i64 (z i))) (hz : ∀ i, i < n → Fits (z i)) : ArgI .i64 w (some ⟨g, 0, none⟩) n n z :=
  argI_row hb (by omega) hc hz
set_option maxRecDepth 100000 in
set_option maxHeartbeats 4000000 in
theorem works_ok (w : World) : Calls Try.prog 16 #[] w fun e w' => e = .returned (.bool true) ∧ Below w.heap.size w w' := by
  have b0 := below_new2 w (.cells #[.int .i64 0, .int .i64 0, .int .i64 0, .int .i64 3, .int .i64 3] 3) (.cells #[.int .i64 0, .int .i64 1, .int .i64 0, .int .i64 1, .int .i64 4] 3)
  have k0 := (Blk.new w 3 #[.int .i64 0, .int .i64 0, .int .i64 0, .int .i64 3, .int .i64 3]).alloc (.cells #[.int .i64 0, .int .i64 1, .int .i64 0, .int .i64 1, .int .i64 4] 3)
  have k1 := Blk.new2 w (.cells #[.int .i64 0, .int .i64 0, .int .i64 0, .int .i64 3, .int .i64 3] 3) 3 #[.int .i64 0, .int .i64 1, .int .i64 0, .int .i64 1, .int .i64 4]
  have aA := list_arg (n := 5) (z := zA) k0 (by decide) (fun i hi => by rcases i with _ | _ | _ | _ | _ | i <;> first | rfl | omega) (fun i hi => by rcases i with _ | _ | _ | _ | _ | i <;> first | decide | omega)
  have aB := list_arg (n := 5) (z := zB) k1 (by decide) (fun i hi => by rcases i with _ | _ | _ | _ | _ | i <;> first | rfl | omega) (fun i hi => by rcases i with _ | _ | _ | _ | _ | i <;> first | decide | omega)
  go_enter Try.func16, Try.ntmps16
  go_upto_region 2 with fail
  generalize (w.alloc (.cells #[.int .i64 0, .int .i64 0, .int .i64 0, .int .i64 3, .int .i64 3] 3)).alloc (.cells #[.int .i64 0, .int .i64 1, .int .i64 0, .int .i64 1, .int .i64 4] 3) = W0 at *
  clear k0 k1
  go_wp2_with fail
  refine (meet_ok 5 5 5 5 _ _ zA zB W0 aA aB (by decide)).mono ?_
  rintro e w1 (⟨hno, rfl, rfl⟩ | ⟨_, s1, rfl, r1, _, hv1⟩)
  · exact (hno two_ex).elim
  have q := below_end b0 b0.size hv1
  have aA := aA.below hv1
  have aB := aB.below hv1
  go_wp2_with fail
  refine (join_ok 5 5 5 5 _ _ zA zB w1 aA aB (fun h => by cases h) (by decide)).mono ?_
  rintro e w2 (⟨hno, rfl, rfl⟩ | ⟨_, s2, r, rfl, r2, hj, _, hv2⟩)
  · exact (hno two_ex).elim
  have q := below_end q q.size hv2
  have aA := aA.below hv2
  have aB := aB.below hv2
  have r1 := r1.below' hv2
  have hj2 := hj exA exB (fun i _ => rfl) (fun i _ => rfl)
  have r2 : RowN w2 s2 5 (fun _ => 0) := r2.congr (fun i hi => by have h := hj2.unique join_ex hi; show (r i : Int) = ((0 : Nat) : Int); rw [h])
  clear hj hj2
  go_wp2_with fail
  refine (allpairs_ok 5 5 5 5 _ _ zA zB w2 aA aB (by decide)).mono ?_
  rintro e w3 ⟨⟨hno, rfl⟩ | ⟨_, rfl⟩, hv3⟩
  · exact (hno two_ex).elim
  rw [pairs_ex.1, pairs_ex.2.1, pairs_ex.2.2.1, pairs_ex.2.2.2]
  have q := below_end q q.size hv3
  have aA := (aA.below hv3).below (below_new1 w3 (.cells #[.int .i64 1, .int .i64 3, .int .i64 1, .int .i64 5] 23))
  have aB := (aB.below hv3).below (below_new1 w3 (.cells #[.int .i64 1, .int .i64 3, .int .i64 1, .int .i64 5] 23))
  have r1 := (r1.below' hv3).alloc (.cells #[.int .i64 1, .int .i64 3, .int .i64 1, .int .i64 5] 23)
  have r2 := (r2.below' hv3).alloc (.cells #[.int .i64 1, .int .i64 3, .int .i64 1, .int .i64 5] 23)
  have q := q.alloc q.size (.cells #[.int .i64 1, .int .i64 3, .int .i64 1, .int .i64 5] 23)
  have k3 := Blk.new w3 23 #[.int .i64 1, .int .i64 3, .int .i64 1, .int .i64 5]
  go_upto_region 5 with fail
  generalize w3.alloc (.cells #[.int .i64 1, .int .i64 3, .int .i64 1, .int .i64 5] 23) = W3 at *
  go_wp2_with fail
  refine (rand_ok 5 5 5 5 _ _ zA zB W3 aA aB (by decide)).mono ?_
  rintro e w4 ⟨⟨hno, rfl⟩ | ⟨_, hlt, _⟩ | ⟨_, _, rfl⟩, hv4⟩
  · exact (hno two_ex).elim
  · omega
  rw [pairs_ex.1, pairs_ex.2.2.2, show half 5 = 10 from rfl, show ((1 : Nat) : Int) + ((5 : Nat) : Int) = 6 from rfl, show ((10 : Nat) : Int) = 10 from rfl, rand_ex.1, rand_ex.2.1, rand_ex.2.2]
  have b4 := below_new2 w4 (.cells #[.int .i64 3, .int .i64 5] 28) (.cells #[.int .i64 0, .int .i64 0, .int .i64 2, .int .i64 3] 3)
  have q := below_end q q.size hv4
  have q := below_end q q.size b4
  have r1 := (r1.below' hv4).below' b4
  have r2 := (r2.below' hv4).below' b4
  have k3 := (k3.below hv4 k3.lt).below b4 (k3.below hv4 k3.lt).lt
  have k4 := (Blk.new w4 28 #[.int .i64 3, .int .i64 5]).alloc (.cells #[.int .i64 0, .int .i64 0, .int .i64 2, .int .i64 3] 3)
  have k5 := Blk.new2 w4 (.cells #[.int .i64 3, .int .i64 5] 28) 3 #[.int .i64 0, .int .i64 0, .int .i64 2, .int .i64 3]
  have aC := list_arg (n := 4) (z := zC) k5 (by decide) (fun i hi => by rcases i with _ | _ | _ | _ | i <;> first | rfl | omega) (fun i hi => by rcases i with _ | _ | _ | _ | i <;> first | decide | omega)
  have hq4 := q.size
  clear aA aB k5
  go_wp2_with fail
  refine (next_ok 4 4 _ zC _ aC (by decide)).mono ?_
  rintro e w5 (⟨hno | hno, rfl, _⟩ | ⟨a, t, v, s5, _, ea, hN, rfl, r5, _, hv5⟩)
  · exact (hno can_exC).elim
  · exact absurd (hno 1 (by decide)) (by decide)
  have q := below_end q hq4 hv5
  have r1 := r1.below' hv5
  have r2 := r2.below' hv5
  have k3 := k3.below hv5 k3.lt
  have k4 := k4.below hv5 k4.lt
  have r5 := r5.congr (next_ex ea hN)
  have r1 := r1.congr meet_ex
  clear aC b4 hv4
  clear hN ea
  have r2 : RowF .i64 w5 s2 3 5 (fun i => ([0, 0, 0, 0, 0] : List Int).getD i 0) := r2.congr (fun i hi => by rcases i with _ | _ | _ | _ | _ | i <;> first | rfl | omega)
  have hq5 := q.size
  have e23 := eq23 1 3 1 5 1 3 1 5
  go_wp2_with fail
  have b6 := below_new1 w5 (.cells #[.int .i64 0, .int .i64 1, .int .i64 0, .int .i64 3, .int .i64 4] 3)
  have L1 := list_arg (n := 5) (z := fun i => ([0, 1, 0, 3, 4] : List Int).getD i 0) (Blk.new w5 3 #[.int .i64 0, .int .i64 1, .int .i64 0, .int .i64 3, .int .i64 4]) (by decide) (fun i hi => by rcases i with _ | _ | _ | _ | _ | i <;> first | rfl | omega) (fun i hi => by rcases i with _ | _ | _ | _ | _ | i <;> first | decide | omega)
  refine (same_yes 5 5 5 _ _ _ _ ((row_lit r1 (by decide) (by decide)).below b6) L1 (by decide)).mono ?_
  rintro e w6 ⟨rfl, m6, hw6⟩
  have b7 : Below w5.heap.size w5 w6 := by rw [hw6]; exact below_drewN b6 m6
  have r2 := r2.below' b7
  have r5 := r5.below' b7
  have k3 := k3.below b7 k3.lt
  have k4 := k4.below b7 k4.lt
  have q := below_end q hq5 b7
  have hq6 := q.size
  clear hw6 L1 b6 r1
  go_wp2_with fail
  have b8 := below_new1 w6 (.cells #[.int .i64 0, .int .i64 0, .int .i64 0, .int .i64 0, .int .i64 0] 3)
  have L2 := list_arg (n := 5) (z := fun i => ([0, 0, 0, 0, 0] : List Int).getD i 0) (Blk.new w6 3 #[.int .i64 0, .int .i64 0, .int .i64 0, .int .i64 0, .int .i64 0]) (by decide) (fun i hi => by rcases i with _ | _ | _ | _ | _ | i <;> first | rfl | omega) (fun i hi => by rcases i with _ | _ | _ | _ | _ | i <;> first | decide | omega)
  refine (same_yes 5 5 5 _ _ _ _ ((row_lit r2 (by decide) (by decide)).below b8) L2 (by decide)).mono ?_
  rintro e w7 ⟨rfl, m7, hw7⟩
  have b9 : Below w6.heap.size w6 w7 := by rw [hw7]; exact below_drewN b8 m7
  have r5 := r5.below' b9
  have k3 := k3.below b9 k3.lt
  have k4 := k4.below b9 k4.lt
  have q := below_end q hq6 b9
  have hq7 := q.size
  clear hw7 L2 b8 r2
  have c0 := k3.cell 0
  have c1 := k3.cell 1
  have c2 := k3.cell 2
  have c3 := k3.cell 3
  have d0 := k4.cell 0
  have d1 := k4.cell 1
  simp at c0 c1 c2 c3 d0 d1
  go_wp2_with fail
  have b10 := below_new1 w7 (.cells #[.int .i64 0, .int .i64 1, .int .i64 0, .int .i64 0] 3)
  have L3 := list_arg (n := 4) (z := fun i => ([0, 1, 0, 0] : List Int).getD i 0) (Blk.new w7 3 #[.int .i64 0, .int .i64 1, .int .i64 0, .int .i64 0]) (by decide) (fun i hi => by rcases i with _ | _ | _ | _ | i <;> first | rfl | omega) (fun i hi => by rcases i with _ | _ | _ | _ | i <;> first | decide | omega)
  refine (same_yes 4 4 4 _ _ _ _ ((row_lit r5 (by decide) (by decide)).below b10) L3 (by decide)).mono ?_
  rintro e w8 ⟨rfl, m8, hw8⟩
  have b11 : Below w7.heap.size w7 w8 := by rw [hw8]; exact below_drewN b10 m8
  have q := below_end q hq7 b11
  clear hw8 L3 b10
  go_wp2_with fail
  go_ret
  exact ⟨rfl, q⟩
end Go.Proofs.Ytipniooflaiikaa
