/-
  Edges as the laws hold them; drawn.
-/
import Derived.Test.YtoiafopndlnknaaH1
set_option linter.unusedVariables false
set_option linter.unusedSimpArgs false
namespace Go.Proofs.Ytoiafopndlnknaa
open Go.RowKit Go.Shelf

/-- a list of edges in a slice of its own, from block B on -/
def EL (w : World) (B : Nat) (v : Value) (E : Es) : Prop := ∃ y : Nat → Nat → Int, RowE w B v E.length y ∧ ∀ i, i < E.length → y i 0 = ((edge E i).1 : Nat) ∧ y i 1 = ((edge E i).2 : Nat) ∧ Fits (y i 2)
theorem edge_app_l (E F : Es) {i : Nat} (h : i < E.length) : edge (E ++ F) i = edge E i := by
  unfold edge
  rw [List.getD_eq_getElem?_getD, List.getD_eq_getElem?_getD, List.getElem?_append_left h]
theorem edge_app_r (E F : Es) (i : Nat) : edge (E ++ F) (E.length + i) = edge F i := by
  unfold edge
  rw [List.getD_eq_getElem?_getD, List.getD_eq_getElem?_getD, List.getElem?_append_right (by omega), Nat.add_sub_cancel_left]
section
variable {w w' : World} {B : Nat} {v : Value} {E : Es}
theorem EL.nil (w : World) (B : Nat) : EL w B (.slice none 0 0) [] := ⟨fun _ _ => 0, World.ownsRow_nil _ _ _ _, fun i hi => by cases hi⟩
theorem EL.below (h : EL w B v E) (hb : Below w.heap.size w w') : EL w' B v E := by obtain ⟨y, h1, h2⟩ := h; exact ⟨y, h1.below hb, h2⟩
theorem EL.mono {B' : Nat} (h : EL w B v E) (hB : B' ≤ B) : EL w B' v E := by obtain ⟨y, h1, h2⟩ := h; exact ⟨y, h1.mono hB, h2⟩
theorem EL.base (h : EL w B v E) : ∀ k, v.ownBlock = some k → B ≤ k := by obtain ⟨y, h1, h2⟩ := h; exact h1.base
theorem EL.arg (h : EL w B v E) (hf : ∀ i, i < E.length → (edge E i).1 < 5000 ∧ (edge E i).2 < 5000) : ∃ A c y, v = .slice A E.length c ∧ ArgS k3 w A E.length c y ∧ (∀ i, i < E.length → y i 0 = ((edge E i).1 : Nat) ∧ y i 1 = ((edge E i).2 : Nat)) ∧ (0 < E.length → ∃ g, A = some ⟨g, 0, none⟩ ∧ B ≤ g) := by
  obtain ⟨y, h1, h2⟩ := h
  obtain ⟨A, c, e, ha, _, hg⟩ := h1.arg (fun i hi j hj => by
    obtain ⟨e0, e1, e2⟩ := h2 i hi
    obtain ⟨f0, f1⟩ := hf i hi
    rcases j with _ | _ | _ | j
    · rw [e0]; exact ⟨by omega, by omega⟩
    · rw [e1]; exact ⟨by omega, by omega⟩
    · exact e2
    · omega)
  exact ⟨A, c, y, e, ha, fun i hi => ⟨(h2 i hi).1, (h2 i hi).2.1⟩, hg⟩
end
theorem fine_edge {n : Nat} {E : Es} (h : Fine n E) {i : Nat} (hi : i < E.length) : (edge E i).1 < n ∧ (edge E i).2 < n ∧ (edge E i).1 ≠ (edge E i).2 := by
  have : edge E i ∈ E := by
    unfold edge
    rw [List.getD_eq_getElem?_getD, List.getElem?_eq_getElem hi]
    exact List.getElem_mem hi
  exact h.2.2 _ this
theorem Fine.snoc {n : Nat} {E : Es} {e : Nat × Nat} (h : Fine n E) (hl : E.length < 16384) (h1 : e.1 < n) (h2 : e.2 < n) (h3 : e.1 ≠ e.2) : Fine n (E ++ [e]) :=
  ⟨h.1, by simp; omega, fun x hx => by
    rcases List.mem_append.1 hx with hx | hx
    · exact h.2.2 x hx
    · simp at hx; subst hx; exact ⟨h1, h2, h3⟩⟩
theorem es_ext {E F : Es} (hl : E.length = F.length) (h : ∀ i, i < E.length → edge E i = edge F i) : E = F := by
  refine List.ext_getElem hl fun i h1 h2 => ?_
  have := h i h1
  unfold edge at this
  rw [List.getD_eq_getElem?_getD, List.getD_eq_getElem?_getD, List.getElem?_eq_getElem h1, List.getElem?_eq_getElem h2] at this
  simpa using this
theorem esOf_eq {E : Es} {y : Nat → Nat → Int} (h : ∀ i, i < E.length → y i 0 = ((edge E i).1 : Nat) ∧ y i 1 = ((edge E i).2 : Nat)) : esOf y E.length = E := by
  refine es_ext (esOf_len _ _) fun i hi => ?_
  rw [esOf_len] at hi
  rw [esOf_edge y hi, (h i hi).1, (h i hi).2]
  simp
theorem good_of {n : Nat} {E : Es} {y : Nat → Nat → Int} (hF : Fine n E) (h : ∀ i, i < E.length → y i 0 = ((edge E i).1 : Nat) ∧ y i 1 = ((edge E i).2 : Nat)) : Good n E.length y := by
  refine ⟨by omega, by have := hF.1; omega, hF.2.1, fun i hi => ?_⟩
  obtain ⟨a, b, c⟩ := fine_edge hF hi
  unfold GoodE
  rw [(h i hi).1, (h i hi).2]
  omega
/-- New, of edges that are fine -/
theorem new_el {w : World} {B n : Nat} {v : Value} {E : Es} (h : EL w B v E) (hF : Fine n E) :
    Calls Try.prog 15 #[.int .i64 (n : Int), v] w fun e w' => ∃ K, e = .returned (.tuple #[.pointer (some ⟨K.g, 0, none⟩), .int .i64 0]) ∧ Gr w' K n E ∧ Below w.heap.size w w' := by
  obtain ⟨A, c, y, rfl, ha, hy, _⟩ := h.arg (fun i hi => by have := fine_edge hF hi; have := hF.1; omega)
  refine (new_any (n : Int) E.length c A y w ha).mono ?_
  rintro e w' ⟨hN, q⟩
  rcases hN with ⟨_, K, rfl, hG⟩ | ⟨hno, _⟩
  · rw [esOf_eq hy, Int.toNat_natCast] at hG
    exact ⟨K, rfl, hG, q⟩
  · exact absurd (good_of hF hy) hno
/-- append of one edge -/
theorem wpList_append_edge {ops : Array Oper} {rest : List Oper} {o : Oper} {a : Act} {w : World} {Q : Exit → Act → World → Prop} (hgd : o.guard = none) (s x : Operand) (ho : o.op = .call { callee := .builtin .append, args := #[s, x], argTypes := #[24, 24] })
    (B : Nat) (v : Value) (E : Es) (u1 u2 : Nat) (W : Int) (bx : Nat) (hs : a.eval s = v) (hR : EL w B v E) (hx : a.eval x = .slice (some ⟨bx, 0, none⟩) 1 1) (hk : Blk w bx 47 #[.int .i64 (u1 : Int), .int .i64 (u2 : Int), .int .i64 W]) (hW : Fits W) (h1 : u1 < 5000) (h2 : u2 < 5000)
    (hn : E.length ≤ 20000) (hB : B ≤ w.heap.size)
    (h : ∀ v' w', EL w' B v' (E ++ [(u1, u2)]) → w.grownBy w' v.ownBlock → wpList Try.prog ops Q rest (a.put o.dst v') w') :
    wpList Try.prog ops Q (o :: rest) a w := by
  obtain ⟨y, hr, hy⟩ := hR
  have hz : ArgS k3 w (some ⟨bx, 0, none⟩) 1 1 (fun _ j => if j = 0 then (u1 : Int) else if j = 1 then (u2 : Int) else W) := by
    refine ⟨Nat.le_refl _, by omega, fun _ => ⟨bx, 0, rfl, hk.lt, fun i hi j k hj => ?_⟩, fun i hi j k hj => ?_⟩
    · obtain ⟨hj3, rfl⟩ := k3_some hj
      obtain rfl : i = 0 := by omega
      refine (hk.cell _).trans ?_
      rcases j with _ | _ | _ | j
      · rfl
      · rfl
      · rfl
      · omega
    · obtain ⟨hj3, rfl⟩ := k3_some hj
      rcases j with _ | _ | _ | j
      · exact fits_wf ⟨by show (-9223372036854775808 : Int) ≤ (u1 : Int); omega, by show (u1 : Int) ≤ _; omega⟩
      · exact fits_wf ⟨by show (-9223372036854775808 : Int) ≤ (u2 : Int); omega, by show (u2 : Int) ≤ _; omega⟩
      · exact fits_wf hW
      · omega
  refine wpList_append_edges hgd s x ho B v E.length y hs hr _ 1 1 _ hx hz (by omega) hB ?_
  intro v' w' g1 g2
  refine h v' w' ⟨_, by rw [List.length_append]; exact g1, fun i hi => ?_⟩ g2
  rw [List.length_append, List.length_singleton] at hi
  by_cases hlt : i < E.length
  · rw [edge_app_l E _ hlt]
    simp only [if_pos hlt]
    exact hy i hlt
  · obtain rfl : i = E.length := by omega
    have := edge_app_r E [(u1, u2)] 0
    rw [Nat.add_zero] at this
    rw [this]
    simp only [if_neg hlt]
    exact ⟨rfl, rfl, hW⟩
/-- what drawn gives -/
def Drawn (w : World) (e : Ending) (w' : World) : Prop := ∃ (m : Nat) (v : Value) (E : Es), e = .returned (.tuple #[.int .i64 (m : Int), v]) ∧ m ≤ 40 ∧ E.length ≤ 120 ∧ Fine m E ∧ EL w' w.heap.size v E ∧ Below w.heap.size w w'
set_option maxRecDepth 100000 in
set_option maxHeartbeats 2000000 in
theorem drawn_ok (N : Int) (n c : Nat) (A : Option Addr) (z : Nat → Nat → Int) (w : World) (hN : (Lit.int .u8 N).wf = true) (ha : ArgS [.u8, .u8] w A n c z) :
    Calls Try.prog 14 #[.int .u8 N, .slice A n c] w fun e w' => Drawn w e w' := by
  have hn63 := ha.2.1
  have hnc := ha.1
  have hNb := wf_u8 hN
  have hwN : IntKind.i64.wrap N = N := by rw [IntKind.wrap_i64]; omega
  obtain ⟨m, hm⟩ : ∃ m, N.toNat % 41 = m := ⟨_, rfl⟩
  have hm1 : N.tmod 41 = (m : Int) := by rw [Int.tmod_eq_emod_of_nonneg (by omega)]; omega
  have hm40 : m ≤ 40 := by omega
  clear hm
  go_enter Try.func14, Try.ntmps14
  go_wp2_with fail
  go_loopw [7, 8, 9, 10] (fun v v8 _ _ wr => ∃ (i : Nat) (E : Es), v8 = .int .i64 i ∧ i ≤ n ∧ i ≤ 120 ∧ E.length ≤ i ∧ Fine m E ∧ EL wr w.heap.size v E ∧ Below w.heap.size w wr) (fun _ v _ _ _ => 200 - (intOf v).toNat)
  case atStart => exact ⟨0, [], rfl, Nat.zero_le _, Nat.zero_le _, Nat.zero_le _, ⟨by omega, by simp, fun e he => by cases he⟩, EL.nil _ _, Below.refl _ _⟩
  case round =>
    obtain ⟨i, E, rfl, hi, hi2, hEl, hF, hE, q⟩ := hrel
    by_cases hlt : i < n ∧ i < 120 ∧ 0 < m
    · obtain ⟨h1, h2, h3⟩ := hlt
      have hin : (i : Int) < (n : Int) := by omega
      have hi120 : (i : Int) < 120 := by omega
      have hm0 : (0 : Int) < (m : Int) := by omega
      obtain ⟨g, o, rfl, hg, hc⟩ := (ha.below q).2.2.1 (by omega)
      have d0 := wf_u8 ((ha.below q).2.2.2 i h1 0 .u8 rfl)
      have d1 := wf_u8 ((ha.below q).2.2.2 i h1 1 .u8 rfl)
      have c0 : wr.cell? ⟨g, o + i * 2, none⟩ = some (.int .u8 (z i 0)) := hc i h1 0 .u8 rfl
      have c1 : wr.cell? ⟨g, o + i * 2 + 1, none⟩ = some (.int .u8 (z i 1)) := by rw [Nat.add_assoc]; exact hc i h1 1 .u8 rfl
      obtain ⟨x, hx⟩ : ∃ x : Nat, z i 0 = x := ⟨(z i 0).toNat, by omega⟩
      obtain ⟨y, hy⟩ : ∃ x : Nat, z i 1 = x := ⟨(z i 1).toNat, by omega⟩
      rw [hx] at c0 d0
      rw [hy] at c1 d1
      obtain ⟨a, ha'⟩ : ∃ a, x % m = a := ⟨_, rfl⟩
      obtain ⟨b, hb'⟩ : ∃ a, y % m = a := ⟨_, rfl⟩
      have hal : a < m := by rw [← ha']; exact Nat.mod_lt _ h3
      have hbl : b < m := by rw [← hb']; exact Nat.mod_lt _ h3
      have t0 : (x : Int).tmod (m : Int) = (a : Int) := by rw [Int.tmod_eq_emod_of_nonneg (by omega), ← ha', Int.natCast_emod]
      have t1 : (y : Int).tmod (m : Int) = (b : Int) := by rw [Int.tmod_eq_emod_of_nonneg (by omega), ← hb', Int.natCast_emod]
      have v0 : IntKind.i64.wrap (x : Int) = (x : Int) := by rw [IntKind.wrap_i64]; omega
      have v1 : IntKind.i64.wrap (y : Int) = (y : Int) := by rw [IntKind.wrap_i64]; omega
      have hmz : (m : Int) ≠ 0 := by omega
      have hmz2 : m ≠ 0 := by omega
      clear hc hx hy ha' hb'
      go_upto_region 6 with fail
      go_quiet (fail)
      have q := below_drewN q nq
      have hE : EL (wr.drewN nq) w.heap.size u7 E := hE.below (below_drewN (Below.refl _ _) nq)
      clear c0 c1 t0 t1 v0 v1
      generalize wr.drewN nq = W2 at *
      by_cases hab : a = b
      · subst hab
        go_wp2_with fail
        go_roundw
        case rel => exact ⟨i + 1, E, by simp, by omega, by omega, by omega, hF, hE, q⟩
        case measure => simp [intOf]; omega
      · have hab1 : ((a : Int) == (b : Int)) = false := by simp; omega
        have hab2 : ¬ (a : Int) = (b : Int) := by omega
        have bA := below_new1 W2 (.cells #[.int .i64 (a : Int), .int .i64 (b : Int), .int .i64 (i : Int)] 47)
        have kA := Blk.new W2 47 #[.int .i64 (a : Int), .int .i64 (b : Int), .int .i64 (i : Int)]
        have hE2 := hE.below bA
        have q2 := below_end q q.size bA
        have hq2 := q2.size
        have hbs := hE2.base
        clear hE q bA
        go_wp2_with (at_builtin; refine wpList_append_edge rfl _ _ rfl w.heap.size u7 E a b (i : Int) W2.heap.size rfl hE2 rfl kA ⟨by omega, by omega⟩ (by omega) (by omega) (by omega) hq2 ?_; intro v' w5 hE5 gr5)
        have q5 := q2.grown gr5 hq2 (fun k hk => hbs k hk)
        go_roundw
        case rel => exact ⟨i + 1, E ++ [(a, b)], by simp, by omega, by omega, by simp; omega, hF.snoc (by omega) hal hbl hab, hE5, q5⟩
        case measure => simp [intOf]; omega
    · have hex : Drawn w (.returned (.tuple #[.int .i64 (m : Int), u7])) wr := ⟨m, u7, E, rfl, hm40, by omega, hF, hE, q⟩
      by_cases h1 : i < n
      · have hin : (i : Int) < (n : Int) := by omega
        by_cases h2 : i < 120
        · have hi120 : (i : Int) < 120 := by omega
          have hm0 : ¬ (0 : Int) < (m : Int) := by omega
          clear hE q ha
          go_wp2_with fail
          go_ret2
          exact hex
        · have hi120 : ¬ (i : Int) < 120 := by omega
          clear hE q ha
          go_wp2_with fail
          go_ret2
          exact hex
      · have hin : ¬ (i : Int) < (n : Int) := by omega
        clear hE q ha
        go_wp2_with fail
        go_ret2
        exact hex
end Go.Proofs.Ytoiafopndlnknaa
