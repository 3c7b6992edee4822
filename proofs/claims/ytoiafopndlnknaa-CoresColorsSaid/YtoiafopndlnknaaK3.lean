/-
  The document's Core, used, Colors.
-/
import Derived.Test.YtoiafopndlnknaaL8
set_option linter.unusedVariables false
set_option linter.unusedSimpArgs false
namespace Go.Proofs.Ytoiafopndlnknaa
open Go.RowKit Go.Shelf

set_option maxRecDepth 100000 in
set_option maxHeartbeats 2000000 in
theorem rcore_ok {w : World} {A : Option Addr} {c n : Nat} {E : Es} (ha : EA w A c E) (hF : Fine n E) (k : Int) :
    Calls Try.prog 31 #[.int .i64 (n : Int), .slice A E.length c, .int .i64 k] w fun e w' => ∃ v, e = .returned v ∧ RowL w' w.heap.size v (coreL E n k) ∧ Below w.heap.size w w' := by
  have hn := hF.1
  have xn := rnumbers_ok ha hF
  obtain ⟨f, hf⟩ : ∃ f, num E n = f := ⟨_, rfl⟩
  have HC := Lib.hid (show ∀ i, (List.range (i + 1)).filter (fun v => decide (k ≤ (f v : Nat))) = (List.range i).filter (fun v => decide (k ≤ (f v : Nat))) ++ if decide (k ≤ (f i : Nat)) = true then [i] else [] from fun i => range_snoc_filter _ i)
  have HR := Lib.hid (show coreL E n k = (List.range n).filter (fun v => decide (k ≤ (f v : Nat))) from by unfold coreL; rw [hf])
  have HLE := Lib.hid (show ∀ i, ((List.range i).filter (fun v => decide (k ≤ (f v : Nat)))).length ≤ i from fun i => by
    have := List.length_filter_le (fun v => decide (k ≤ (f v : Nat))) (List.range i)
    rwa [List.length_range] at this)
  rw [hf] at xn
  clear hf ha
  go_enter Try.func31, Try.ntmps31
  go_wp2_with fail
  refine xn.mono ?_
  rintro e w1 ⟨gn, rfl, hgn, hR, q1⟩
  clear xn
  go_wp2_with fail
  go_loopw [7, 9] (fun v7 v9 wr => ∃ (i : Nat) (l : List Nat) (A2 : Option Addr) (m2 c2 : Nat), v7 = .slice A2 m2 c2 ∧ v9 = .int .i64 i ∧ i ≤ n ∧ Hid (l = (List.range i).filter (fun v => decide (k ≤ (f v : Nat))) ∧ l.length = m2) ∧ RowL wr w1.heap.size (.slice A2 m2 c2) l ∧ Below w1.heap.size w1 wr) (fun _ v _ => 20000 - (intOf v).toNat)
  case atStart => exact ⟨0, [], none, 0, 0, rfl, rfl, Nat.zero_le _, Lib.hid ⟨rfl, rfl⟩, RowL.nil _ _, Below.refl _ _⟩
  case round =>
    obtain ⟨i, l, A2, m2, c2, rfl, rfl, hi, HL, hr, q⟩ := hrel
    by_cases hlt : i < n
    · have hin : (i : Int) < (n : Int) := by omega
      have c1 := (hR.below' q).cell hlt
      obtain ⟨x, hx⟩ : ∃ x, f i = x := ⟨_, rfl⟩
      have HC1 := Lib.hid (HC.out i)
      rw [hx] at c1 HC1
      clear hx
      by_cases hk : k ≤ (x : Nat)
      · have HC2 := Lib.hid (show (List.range (i + 1)).filter (fun v => decide (k ≤ (f v : Nat))) = l ++ [i] from by have := HC1.out; rw [if_pos (decide_eq_true hk), ← HL.out.1] at this; exact this)
        obtain ⟨t1, t2, t3, FIN⟩ := app_prep i hr q
        have FIN := Lib.hid FIN
        have hl2 : l.length ≤ 100000 := by rw [HL.out.1]; have := HLE.out i; omega
        clear hr q
        go_wp2_with (at_builtin; refine wpList_append_num rfl _ _ rfl w1.heap.size (.slice A2 m2 c2) l i wr.heap.size rfl t1 rfl t2 hl2 t3 ?_; intro v' w3 g1 g2; obtain ⟨A3, c3, rfl, g3, g4⟩ := FIN.out v' w3 g1 g2; clear g1 g2)
        rw [HL.out.2] at g3 ⊢
        go_roundw
        case rel => exact ⟨i + 1, l ++ [i], A3, m2 + 1, c3, rfl, by simp, by omega, Lib.hid ⟨HC2.out.symm, by rw [List.length_append, HL.out.2]; rfl⟩, g3, g4⟩
        case measure => simp [intOf]; omega
      · have HC2 := Lib.hid (show (List.range (i + 1)).filter (fun v => decide (k ≤ (f v : Nat))) = l from by have := HC1.out; rw [if_neg (by rw [decide_eq_false hk]; simp), List.append_nil, ← HL.out.1] at this; exact this)
        go_wp2_with fail
        go_roundw
        case rel => exact ⟨i + 1, l, A2, m2, c2, rfl, by simp, by omega, Lib.hid ⟨HC2.out.symm, HL.out.2⟩, hr, q⟩
        case measure => simp [intOf]; omega
    · have ein : n = i := by omega
      subst ein
      have hin : ¬ (n : Int) < (n : Int) := by omega
      have q2 := below_end q1 q1.size q
      have hs1 := q1.size
      have HE := Lib.hid (show coreL E n k = l from by rw [HR.out, HL.out.1])
      go_wp2_with fail
      go_ret
      exact ⟨_, rfl, by rw [HE.out]; exact hr.mono hs1, q2⟩
/-- the colors of a vertex's neighbors, edge by edge -/
theorem oth_mem {E : Es} {v : Nat} {col : Nat → Int} {x : Int} (k : Nat) : x ∈ (oth E v (k + 1)).map col ↔ x ∈ (oth E v k).map col ∨ (hits (edge E k) v = true ∧ col (other (edge E k) v) = x) := by
  rw [oth_succ, List.map_append, List.mem_append]
  by_cases h : hits (edge E k) v = true
  · rw [if_pos h]
    simp [h]
    constructor
    · rintro (h | h)
      · exact .inl h
      · exact .inr h.symm
    · rintro (h | h)
      · exact .inl h
      · exact .inr h.symm
  · rw [if_neg h]
    simp [h]
set_option maxRecDepth 100000 in
set_option maxHeartbeats 8000000 in
theorem rused_ok {w : World} {A : Option Addr} {c n : Nat} {E : Es} (ha : EA w A c E) (hF : Fine n E) {gc : Nat} {col : Nat → Int} (hC : RowF .i64 w gc 3 n col) {v : Nat} (hv : v < n) (x : Int) :
    Calls Try.prog 50 #[.slice A E.length c, .slice (some ⟨gc, 0, none⟩) n n, .int .i64 (v : Int), .int .i64 x] w fun e w' => e = .returned (.bool (decide (x ∈ (oth E v E.length).map col))) ∧ w = w' := by
  have hm := hF.2.1
  have hn := hF.1
  have hcl := ha.len
  have HED := Lib.hid (fun i (hi : i < E.length) => ha.edge hi)
  have HFE := Lib.hid (fun i (hi : i < E.length) => fine_edge hF hi)
  have HLC := Lib.hid (fun i (hi : i < n) => hC.cell hi)
  have HS := Lib.hid (show ∀ k, (x ∈ (oth E v (k + 1)).map col ↔ x ∈ (oth E v k).map col ∨ (hits (edge E k) v = true ∧ col (other (edge E k) v) = x)) from fun k => oth_mem k)
  have HP := Lib.hid (show ∀ k, k ≤ E.length → x ∈ (oth E v k).map col → x ∈ (oth E v E.length).map col from fun k hk => by
    have key : ∀ d, x ∈ (oth E v k).map col → x ∈ (oth E v (k + d)).map col := by
      intro d
      induction d with
      | zero => exact id
      | succ d ih => exact fun h => (oth_mem (k + d)).2 (.inl (ih h))
    have := key (E.length - k)
    rwa [show k + (E.length - k) = E.length by omega] at this)
  have H0 := Lib.hid (show ¬ x ∈ (oth E v 0).map col from by simp [oth, inc])
  obtain ⟨m, hm'⟩ : ∃ m, E.length = m := ⟨_, rfl⟩
  rw [hm'] at hm hcl HED HFE HP ⊢
  obtain ⟨R, hR⟩ : ∃ R, decide (x ∈ (oth E v m).map col) = R := ⟨_, rfl⟩
  have HR := Lib.hid hR
  rw [hR]
  clear ha hF hm' hC hR
  go_enter Try.func50, Try.ntmps50
  go_wp2_with fail
  go_loopw [9] (fun v9 wr => ∃ i : Nat, v9 = .int .i64 i ∧ i ≤ m ∧ Hid (¬ x ∈ (oth E v i).map col) ∧ w = wr) (fun v _ => 20000 - (intOf v).toNat)
  case atStart => exact ⟨0, rfl, Nat.zero_le _, H0, rfl⟩
  case round =>
    obtain ⟨i, rfl, hi, HNO, rfl⟩ := hrel
    by_cases hlt : i < m
    · have him : (i : Int) < (m : Int) := by omega
      obtain ⟨g, o, rfl, hg, c0, c1⟩ := HED.out i hlt
      obtain ⟨h1, h2, h3⟩ := HFE.out i hlt
      have HT := Lib.hid (HS.out i)
      have HPI := Lib.hid (HP.out (i + 1) (by omega))
      obtain ⟨⟨a, b⟩, hab⟩ : ∃ e, edge E i = e := ⟨_, rfl⟩
      rw [hab] at c0 c1 h1 h2 h3 HT
      simp only [] at c0 c1 h1 h2 h3
      have HT := Lib.hid (show (x ∈ (oth E v (i + 1)).map col ↔ (a = v ∧ col b = x) ∨ (b = v ∧ col a = x)) from by
        rw [HT.out]
        unfold hits other
        simp only [Bool.or_eq_true, beq_iff_eq]
        constructor
        · rintro (h | ⟨h | h, e⟩)
          · exact absurd h HNO.out
          · subst h
            rw [if_neg (fun e => h3 e.symm)] at e
            exact .inl ⟨rfl, e⟩
          · rw [if_pos h] at e
            exact .inr ⟨h, e⟩
        · rintro (⟨h, e⟩ | ⟨h, e⟩)
          · subst h
            exact .inr ⟨.inl rfl, by rw [if_neg (fun e => h3 e.symm)]; exact e⟩
          · exact .inr ⟨.inr h, by rw [if_pos h]; exact e⟩)
      have d0 := HLC.out a h1
      have d1 := HLC.out b h2
      obtain ⟨la, hla⟩ : ∃ x, col a = x := ⟨_, rfl⟩
      obtain ⟨lb, hlb⟩ : ∃ x, col b = x := ⟨_, rfl⟩
      rw [hla] at d0
      rw [hlb] at d1
      rw [hla, hlb] at HT
      have han : (a : Int) < (n : Int) := by omega
      have hbn : (b : Int) < (n : Int) := by omega
      clear hla hlb hab
      have key : ∀ (x1 x2 x3 x4 : Bool), decide (a = v) = x1 → decide (b = v) = x2 → decide (lb = x) = x3 → decide (la = x) = x4 → ((a : Int) == (v : Int)) = x1 ∧ ((b : Int) == (v : Int)) = x2 ∧ (lb == x) = x3 ∧ (la == x) = x4 ∧ (x ∈ (oth E v (i + 1)).map col ↔ ((x1 && x3) || (x2 && x4)) = true) := by
        rintro x1 x2 x3 x4 rfl rfl rfl rfl
        refine ⟨?_, ?_, ?_, ?_, ?_⟩
        · by_cases h : a = v
          · subst h; simp
          · rw [beq_eq_false_iff_ne.2 (by omega), decide_eq_false h]
        · by_cases h : b = v
          · subst h; simp
          · rw [beq_eq_false_iff_ne.2 (by omega), decide_eq_false h]
        · by_cases h : lb = x
          · subst h; simp
          · rw [beq_eq_false_iff_ne.2 h, decide_eq_false h]
        · by_cases h : la = x
          · subst h; simp
          · rw [beq_eq_false_iff_ne.2 h, decide_eq_false h]
        · rw [HT.out]; simp
      obtain ⟨e1, e2, e3, e4, hT⟩ := key _ _ _ _ rfl rfl rfl rfl
      generalize decide (a = v) = x1 at *
      generalize decide (b = v) = x2 at *
      generalize decide (lb = x) = x3 at *
      generalize decide (la = x) = x4 at *
      have HT := Lib.hid hT
      clear key hT
      cases x1 <;> cases x2 <;> cases x3 <;> cases x4
      all_goals
        (simp only [Bool.and_true, Bool.and_false, Bool.or_true, Bool.or_false, Bool.true_and, Bool.false_and, Bool.true_or, Bool.false_or, Bool.false_eq_true, iff_true, iff_false] at HT
         go_wp2_with fail
         first
           | (have HN2 := Lib.hid (show ¬ x ∈ (oth E v (i + 1)).map col from HT.out)
              go_roundw
              case rel => exact ⟨i + 1, by simp, by omega, HN2, by trivial⟩
              case measure => (simp [intOf]; omega))
           | (have HY := Lib.hid (HPI.out HT.out)
              go_ret
              exact ⟨by rw [← HR.out, decide_eq_true HY.out]; rfl, rfl⟩))
    · have eim : m = i := by omega
      subst eim
      have him : ¬ (m : Int) < (m : Int) := by omega
      go_wp2_with fail
      go_ret
      exact ⟨by rw [← HR.out, decide_eq_false HNO.out]; rfl, rfl⟩
end Go.Proofs.Ytoiafopndlnknaa
