/-
  The chapter's example.
-/
import Derived.Test.YtoiafopndlnknaaG8
set_option linter.unusedVariables false
set_option linter.unusedSimpArgs false
namespace Go.Proofs.Ytoiafopndlnknaa
open Go.RowKit Go.Shelf

def exE : Es := [(0, 1), (1, 2), (2, 0), (2, 3)]
theorem ex_ord : ord exE 5 = [4, 3, 0, 1, 2] := by decide +kernel
theorem ex_num : ∀ i, i < 5 → ((num exE 5 i : Nat) : Int) = zl [2, 2, 2, 1, 0] i := by decide +kernel
theorem ex_shells : shellsL (num exE 5) 5 2 = [1, 1, 3] := by decide +kernel
theorem ex_col : ∀ i, i < 5 → colF exE (ord exE 5).reverse i = zl [2, 1, 0, 1, 0] i := by decide +kernel
theorem ex_dens : dens (vUp (num exE 5) 5 2) (eUp exE (num exE 5) 2) 3 = (2, 3, 3) := by decide +kernel
theorem ex_red : redN 3 3 = 1 ∧ redD 3 3 = 1 := by decide +kernel
def exL : List Int := [0, 1, 0, 1, 2, 0, 2, 0, 0, 2, 3, 0]
def exZ (i j : Nat) : Int := exL.getD (i * 3 + j) 0
theorem ex_es : esOf exZ 4 = exE := by decide +kernel
theorem ex_good : Good 5 4 exZ := by unfold Good GoodE; exact ⟨by omega, by omega, by omega, by decide +kernel⟩
theorem ex_max {G : Nat} (h : IsMaxOf (num exE 5) 5 G) : G = 2 := by
  obtain ⟨h1, h2, _⟩ := h
  obtain ⟨v, hv, e⟩ := h2 (by omega)
  have a := h1 0 (by omega)
  have e0 : num exE 5 0 = 2 := by decide +kernel
  have b : ∀ v, v < 5 → num exE 5 v ≤ 2 := by decide +kernel
  have := b v hv
  omega
theorem ex_arg (w : World) : ArgS k3 (w.alloc (.cells #[.int .i64 0, .int .i64 1, .int .i64 0, .int .i64 1, .int .i64 2, .int .i64 0, .int .i64 2, .int .i64 0, .int .i64 0, .int .i64 2, .int .i64 3, .int .i64 0] 47)) (some ⟨w.heap.size, 0, none⟩) 4 4 exZ := by
  have kb := Blk.new w 47 #[.int .i64 0, .int .i64 1, .int .i64 0, .int .i64 1, .int .i64 2, .int .i64 0, .int .i64 2, .int .i64 0, .int .i64 0, .int .i64 2, .int .i64 3, .int .i64 0]
  have key : ∀ i, i < 4 → ∀ j, j < 3 → (#[Value.int .i64 0, .int .i64 1, .int .i64 0, .int .i64 1, .int .i64 2, .int .i64 0, .int .i64 2, .int .i64 0, .int .i64 0, .int .i64 2, .int .i64 3, .int .i64 0] : Array Value)[i * 3 + j]? = some (Value.int .i64 (exZ i j)) ∧ Fits (exZ i j) := by
    intro i hi j hj
    rcases i with _ | _ | _ | _ | i
    · rcases j with _ | _ | _ | j <;> first | omega | exact ⟨rfl, by decide⟩
    · rcases j with _ | _ | _ | j <;> first | omega | exact ⟨rfl, by decide⟩
    · rcases j with _ | _ | _ | j <;> first | omega | exact ⟨rfl, by decide⟩
    · rcases j with _ | _ | _ | j <;> first | omega | exact ⟨rfl, by decide⟩
    · omega
  have lt3 : ∀ {j k}, k3[j]? = some k → j < 3 ∧ k = .i64 := by
    intro j k h
    rcases j with _ | _ | _ | j
    · exact ⟨by omega, by cases h; rfl⟩
    · exact ⟨by omega, by cases h; rfl⟩
    · exact ⟨by omega, by cases h; rfl⟩
    · cases h
  refine ⟨Nat.le_refl _, by omega, fun _ => ⟨_, 0, rfl, kb.lt, fun i hi j k hj => ?_⟩, fun i hi j k hj => ?_⟩
  · obtain ⟨hj3, rfl⟩ := lt3 hj
    show World.cell? _ ⟨_, 0 + (i * 3 + j), none⟩ = _
    rw [Nat.zero_add]
    exact (kb.cell _).trans (key i hi j hj3).1
  · obtain ⟨hj3, rfl⟩ := lt3 hj
    exact fits_wf (key i hi j hj3).2
theorem RowF.argf {w : World} {g n : Nat} {f : Nat → Int} (h : RowF .i64 w g 3 n f) (hn : n ≤ 100000) (hf : ∀ i, i < n → Fits (f i)) : ArgI .i64 w (some ⟨g, 0, none⟩) n n f := h.arg (by omega) (fun i hi => fits_wf (hf i hi))
set_option maxRecDepth 100000 in
set_option maxHeartbeats 2000000 in
theorem works_ok (w : World) : Calls Try.prog 21 #[] w fun e w' => e = .returned (.bool true) ∧ Below w.heap.size w w' := by
  have b0 := below_new1 w (.cells #[.int .i64 0, .int .i64 1, .int .i64 0, .int .i64 1, .int .i64 2, .int .i64 0, .int .i64 2, .int .i64 0, .int .i64 0, .int .i64 2, .int .i64 3, .int .i64 0] 47)
  have x := new_any 5 4 4 _ exZ _ (ex_arg w)
  go_enter Try.func21, Try.ntmps21
  go_wp2_with fail
  refine x.mono ?_
  rintro e w1 ⟨hN, q⟩
  clear x
  have q := below_end b0 b0.size q
  clear b0
  rcases hN with ⟨_, K, rfl, hG⟩ | ⟨hno, _⟩
  · rw [ex_es] at hG
    have hG : Gr w1 K 5 exE := hG
    have x := densest_ok hG
    go_wp2_with fail
    refine x.mono ?_
    rintro e w2 ⟨⟨h0, _⟩ | ⟨_, G, hmax, rfl⟩, qd⟩
    · exact absurd h0 (by decide)
    obtain rfl := ex_max hmax
    rw [ex_dens]
    simp only []
    rw [ex_red.1, ex_red.2]
    have hG := hG.below qd
    have q := below_end q q.size qd
    clear x qd hmax
    go_upto_region 5 with fail
    have kb := Blk.new w2 42 #[.int .i64 1, .int .i64 1]
    have bA := below_new1 w2 (.cells #[.int .i64 1, .int .i64 1] 42)
    have hG := hG.below bA
    have hq := q.size
    have q := below_end q q.size bA
    generalize w2.alloc (.cells #[.int .i64 1, .int .i64 1] 42) = W3 at *
    generalize w2.heap.size = gB at *
    clear bA
    have x := order_ok hG
    go_wp2_with fail
    refine x.mono ?_
    rintro e w4 ⟨v, rfl, r, v1⟩
    rw [ex_ord] at r
    obtain ⟨A, c, rfl, ha⟩ := row_list r [4, 3, 0, 1, 2] (by decide) (by decide)
    have hG := hG.below v1
    have kb := kb.below v1 kb.lt
    have q := below_end q q.size v1
    have hq := q.size
    clear x v1 r
    have x := known_same 5 c A [4, 3, 0, 1, 2] #[.int .i64 4, .int .i64 3, .int .i64 0, .int .i64 1, .int .i64 2] w4 ha rfl rfl (by decide) (by decide)
    go_wp2_with fail
    refine x.mono ?_
    rintro e w5 ⟨rfl, v1⟩
    have hG := hG.below v1
    have kb := kb.below v1 kb.lt
    have q := below_end q q.size v1
    clear x v1 ha
    have x := numbers_ok hG
    go_wp2_with fail
    refine x.mono ?_
    rintro e w6 ⟨gn, rfl, _, r, v1⟩
    have ha := (r.congr ex_num).argf (by omega) (by decide)
    have hG := hG.below v1
    have kb := kb.below v1 kb.lt
    have q := below_end q q.size v1
    clear x v1 r
    have x := known_same 5 5 _ [2, 2, 2, 1, 0] #[.int .i64 2, .int .i64 2, .int .i64 2, .int .i64 1, .int .i64 0] w6 ha rfl rfl (by decide) (by decide)
    go_wp2_with fail
    refine x.mono ?_
    rintro e w7 ⟨rfl, v1⟩
    have hG := hG.below v1
    have kb := kb.below v1 kb.lt
    have q := below_end q q.size v1
    clear x v1 ha
    have x := shells_ok hG
    go_wp2_with fail
    refine x.mono ?_
    rintro e w8 ⟨v, G, rfl, hmx, r, v1⟩
    obtain rfl := ex_max hmx
    rw [ex_shells] at r
    obtain ⟨A, c, rfl, ha⟩ := row_list r [1, 1, 3] (by decide) (by decide)
    have hG := hG.below v1
    have kb := kb.below v1 kb.lt
    have q := below_end q q.size v1
    clear x v1 r hmx
    have x := known_same 3 c A [1, 1, 3] #[.int .i64 1, .int .i64 1, .int .i64 3] w8 ha rfl rfl (by decide) (by decide)
    go_wp2_with fail
    refine x.mono ?_
    rintro e w9 ⟨rfl, v1⟩
    have hG := hG.below v1
    have kb := kb.below v1 kb.lt
    have q := below_end q q.size v1
    clear x v1 ha
    have x := colors_ok hG
    go_wp2_with fail
    refine x.mono ?_
    rintro e w10 ⟨gn, rfl, _, r, v1⟩
    have ha := (r.congr ex_col).argf (by omega) (by decide)
    have hG := hG.below v1
    have kb := kb.below v1 kb.lt
    have q := below_end q q.size v1
    clear x v1 r
    have x := known_same 5 5 _ [2, 1, 0, 1, 0] #[.int .i64 2, .int .i64 1, .int .i64 0, .int .i64 1, .int .i64 0] w10 ha rfl rfl (by decide) (by decide)
    go_wp2_with fail
    refine x.mono ?_
    rintro e w11 ⟨rfl, v1⟩
    have kb := kb.below v1 kb.lt
    have q := below_end q q.size v1
    have c0 := kb.cell 0
    have c1 := kb.cell 1
    simp at c0 c1
    clear x v1 ha
    go_wp2_with fail
    go_ret
    exact ⟨rfl, q⟩
  · exact absurd ex_good hno
end Go.Proofs.Ytoiafopndlnknaa
