/-
  The laws' inside and members.
-/
import Derived.Test.YtoiafopndlnknaaL8
set_option linter.unusedVariables false
set_option linter.unusedSimpArgs false
namespace Go.Proofs.Ytoiafopndlnknaa
open Go.RowKit Go.Shelf

/-- how many edges a vertex has within a set, among the first k -/
def dI (E : Es) (S : Nat → Bool) : Nat → Nat → Nat
  | 0, _ => 0
  | k + 1, v => dI E S k v + if (S (edge E k).1 = true ∧ S (edge E k).2 = true) ∧ ((edge E k).1 = v ∨ (edge E k).2 = v) then 1 else 0
theorem dI_yes {E : Es} {S : Nat → Bool} {v : Nat} (h : S v = true) (hne : ∀ i, i < E.length → (edge E i).1 ≠ (edge E i).2) : ∀ k, k ≤ E.length → dI E S k v = dgK E S v k
  | 0, _ => rfl
  | k + 1, hk => by
    have hn := hne k (by omega)
    show dI E S k v + _ = dgK E S v k + _
    rw [dI_yes h hne k (by omega)]
    congr 1
    have key : ((S (edge E k).1 = true ∧ S (edge E k).2 = true) ∧ ((edge E k).1 = v ∨ (edge E k).2 = v)) ↔ touch (edge E k) S v = true := by
      unfold touch
      simp only [Bool.or_eq_true, Bool.and_eq_true, beq_iff_eq]
      constructor
      · rintro ⟨⟨a, b⟩, c | c⟩
        · exact .inl ⟨c, b⟩
        · exact .inr ⟨c, a⟩
      · rintro (⟨a, b⟩ | ⟨a, b⟩)
        · exact ⟨⟨by rw [a]; exact h, b⟩, .inl a⟩
        · exact ⟨⟨b, by rw [a]; exact h⟩, .inr a⟩
    by_cases ht : touch (edge E k) S v = true
    · rw [if_pos (key.2 ht), if_pos ht]
    · rw [if_neg (fun h => ht (key.1 h)), if_neg ht]
theorem dI_no {E : Es} {S : Nat → Bool} {v : Nat} (h : S v = false) : ∀ k, dI E S k v = 0
  | 0 => rfl
  | k + 1 => by
    show dI E S k v + _ = 0
    rw [dI_no h k, if_neg]
    rintro ⟨⟨a, b⟩, c | c⟩
    · rw [c, h] at a; cases a
    · rw [c, h] at b; cases b
theorem dI_le (E : Es) (S : Nat → Bool) (v : Nat) : ∀ k, dI E S k v ≤ k
  | 0 => Nat.le_refl _
  | k + 1 => by have := dI_le E S v k; unfold dI; split <;> omega
def insD (E : Es) (S : Nat → Bool) (v : Nat) : Nat := if S v = true then dg E S v else 0
theorem dI_ins {E : Es} {S : Nat → Bool} (hne : ∀ i, i < E.length → (edge E i).1 ≠ (edge E i).2) (v : Nat) : dI E S E.length v = insD E S v := by
  unfold insD
  by_cases h : S v = true
  · rw [if_pos h]; exact dI_yes h hne _ (Nat.le_refl _)
  · rw [if_neg h]; exact dI_no (by cases hh : S v; rfl; exact absurd hh h) _
set_option maxRecDepth 100000 in
set_option maxHeartbeats 4000000 in
theorem inside_ok {w : World} {A : Option Addr} {c n : Nat} {E : Es} (ha : EA w A c E) (hF : Fine n E) {gi : Nat} {S : Nat → Bool} (hS : RowB w gi n S) :
    Calls Try.prog 20 #[.slice A E.length c, .slice (some ⟨gi, 0, none⟩) n n] w fun e w' => ∃ g, e = .returned (.slice (some ⟨g, 0, none⟩) n n) ∧ w.heap.size ≤ g ∧ RowF .i64 w' g 3 n (fun v => (insD E S v : Nat)) ∧ Below w.heap.size w w' := by
  have hn := hF.1
  have hm := hF.2.1
  have hcl := ha.len
  have mk1 := run_make31 n (by omega)
  have b0 := below_new1 w (.cells (zerosK .i64 n) 3)
  have r0 := RowF.new .i64 w 3 n
  have HED := Lib.hid (fun (W : World) (q : Below w.heap.size w W) i (hi : i < E.length) => (ha.below q).edge hi)
  have HFE := Lib.hid (fun i (hi : i < E.length) => fine_edge hF hi)
  have HLC := Lib.hid (fun (W : World) (q : Below w.heap.size w W) i (hi : i < n) => (hS.below q hS.lt).cell hi)
  have HI := Lib.hid (fun k v => show dI E S (k + 1) v = dI E S k v + if (S (edge E k).1 = true ∧ S (edge E k).2 = true) ∧ ((edge E k).1 = v ∨ (edge E k).2 = v) then 1 else 0 from rfl)
  have HIL := Lib.hid (fun k v => dI_le E S v k)
  have HFI := Lib.hid (fun v => dI_ins (S := S) (fun i hi => (fine_edge hF hi).2.2) v)
  obtain ⟨m, hm'⟩ : ∃ m, E.length = m := ⟨_, rfl⟩
  rw [hm'] at hm hcl HED HFE HFI ⊢
  clear ha hF hm' hS
  go_enter Try.func20, Try.ntmps20
  go_upto_region 2 with fail
  clear mk1
  generalize w.alloc (.cells (zerosK .i64 n) 3) = W1 at *
  obtain ⟨g, hg⟩ : ∃ x, w.heap.size = x := ⟨_, rfl⟩
  have hg0 : w.heap.size ≤ g := by omega
  rw [hg] at r0
  rw [hg]
  clear hg
  go_wp2_with fail
  go_loopw [6, 7, 8] (fun v6 _ _ wr => ∃ i : Nat, v6 = .int .i64 i ∧ i ≤ m ∧ RowF .i64 wr g 3 n (fun v => (dI E S i v : Nat)) ∧ Below w.heap.size w wr) (fun v _ _ _ => 30000 - (intOf v).toNat)
  case atStart => exact ⟨0, rfl, Nat.zero_le _, r0, b0⟩
  case round =>
    clear r0 b0
    obtain ⟨i, rfl, hi, r, q⟩ := hrel
    by_cases hlt : i < m
    · have him : (i : Int) < (m : Int) := by omega
      obtain ⟨ge, oe, rfl, hge, c0, c1⟩ := HED.out _ q i hlt
      obtain ⟨h1, h2, h3⟩ := HFE.out i hlt
      have HT := Lib.hid (HI.out i)
      obtain ⟨⟨a, b⟩, hab⟩ : ∃ e, edge E i = e := ⟨_, rfl⟩
      rw [hab] at c0 c1 h1 h2 h3 HT
      simp only [] at c0 c1 h1 h2 h3 HT
      have han : (a : Int) < (n : Int) := by omega
      have hbn : (b : Int) < (n : Int) := by omega
      clear hab
      go_upto_region 5 with fail
      go_quiet (fail)
      have q := below_drewN q nq
      have r := r.drewN nq
      clear c0 c1
      generalize wr.drewN nq = W2 at *
      have d0 := HLC.out _ q a h1
      have d1 := HLC.out _ q b h2
      have e0 := r.cell h1
      have e1 := r.frozen a
      have e2 := r.frozen b
      have f1 := HIL.out i a
      have f2 := HIL.out i b
      obtain ⟨da, hda⟩ : ∃ x, dI E S i a = x := ⟨_, rfl⟩
      obtain ⟨db, hdb⟩ : ∃ x, dI E S i b = x := ⟨_, rfl⟩
      have HDA := Lib.hid (And.intro hda hdb)
      rw [hda] at e0 f1
      rw [hdb] at f2
      obtain ⟨sa, hsa⟩ : ∃ x, S a = x := ⟨_, rfl⟩
      obtain ⟨sb, hsb⟩ : ∃ x, S b = x := ⟨_, rfl⟩
      rw [hsa] at d0 HT
      rw [hsb] at d1 HT
      have r2 := r.set_ a ((da : Int) + 1)
      have e3 := r2.cell h2
      have e4 := r2.frozen b
      simp only [if_neg (Ne.symm h3), hdb] at e3
      have r3 := r2.set_ b ((db : Int) + 1)
      have q2 := q.setCell (p := ⟨g, a, none⟩) hg0 (.int .i64 ((da : Int) + 1))
      have q3 := q2.setCell (p := ⟨g, b, none⟩) hg0 (.int .i64 ((db : Int) + 1))
      clear hda hdb hsa hsb
      cases sa
      · have HT2 := Lib.hid (show ∀ v, dI E S (i + 1) v = dI E S i v from fun v => by rw [HT.out v, if_neg (fun h => by cases h.1.1)]; rfl)
        clear r2 r3 q2 q3 e3 e4
        go_wp2_with fail
        go_roundw
        case rel => exact ⟨i + 1, by simp, by omega, r.congr (fun v _ => by rw [HT2.out]), q⟩
        case measure => simp [intOf]; omega
      · cases sb
        · have HT2 := Lib.hid (show ∀ v, dI E S (i + 1) v = dI E S i v from fun v => by rw [HT.out v, if_neg (fun h => by cases h.1.2)]; rfl)
          clear r2 r3 q2 q3 e3 e4
          go_wp2_with fail
          go_roundw
          case rel => exact ⟨i + 1, by simp, by omega, r.congr (fun v _ => by rw [HT2.out]), q⟩
          case measure => simp [intOf]; omega
        · have HT2 := Lib.hid (show ∀ v, ((dI E S (i + 1) v : Nat) : Int) = if v = b then (db : Int) + 1 else if v = a then (da : Int) + 1 else (dI E S i v : Nat) from fun v => by
            rw [HT.out v]
            by_cases hb : v = b
            · subst hb; rw [if_pos ⟨⟨rfl, rfl⟩, .inr rfl⟩, if_pos rfl, HDA.out.2]; omega
            · rw [if_neg hb]
              by_cases ha : v = a
              · subst ha; rw [if_pos ⟨⟨rfl, rfl⟩, .inl rfl⟩, if_pos rfl, HDA.out.1]; omega
              · rw [if_neg ha, if_neg (fun h => by rcases h.2 with e | e; exact ha e.symm; exact hb e.symm)]
                rfl)
          clear r r2 q q2
          go_wp2_with fail
          go_roundw
          case rel => exact ⟨i + 1, by simp, by omega, r3.congr (fun v _ => by rw [HT2.out]), q3⟩
          case measure => simp [intOf]; omega
    · have eim : m = i := by omega
      subst eim
      have him : ¬ (m : Int) < (m : Int) := by omega
      have r := r.congr (f' := fun v => (insD E S v : Nat)) (fun v _ => by rw [HFI.out])
      go_wp2_with fail
      go_ret
      exact ⟨g, rfl, hg0, r, q⟩
/-- the list is strictly increasing, below m -/
def Incr (m : Nat) (l : List Nat) : Prop := (∀ i, i < l.length → l.getD i 0 < m) ∧ ∀ i, i + 1 < l.length → l.getD i 0 < l.getD (i + 1) 0
set_option maxRecDepth 100000 in
set_option maxHeartbeats 4000000 in
theorem members_ok (w : World) (m c k : Nat) (A : Option Addr) (l : List Nat) (hl : l.length = k) (ha : ArgI .i64 w A k c (fun i => ((l.getD i 0 : Nat) : Int))) (hm : m ≤ 4096) (hk : k ≤ 4096) (hI : Incr m l) :
    Calls Try.prog 18 #[.int .i64 (m : Int), .slice A k c] w fun e w' => ∃ g, e = .returned (.tuple #[.slice (some ⟨g, 0, none⟩) m m, .bool true]) ∧ w.heap.size ≤ g ∧ RowB w' g m (fun v => decide (v ∈ l)) ∧ Below w.heap.size w w' := by
  have hcl := And.intro ha.1 ha.2.1
  have mk1 := run_make34 m (by omega)
  have b0 := below_new1 w (.cells (falses m) 4)
  have r0 := RowB.made w m
  have HA := Lib.hid (fun (W : World) (q : Below w.heap.size w W) => (ha.below q).2.2.1)
  have HI1 := Lib.hid (show ∀ i, i < k → l.getD i 0 < m from fun i hi => hI.1 i (by omega))
  have HI2 := Lib.hid (show ∀ i, i + 1 < k → l.getD i 0 < l.getD (i + 1) 0 from fun i hi => hI.2 i (by omega))
  have HT := Lib.hid (show ∀ i v, i < k → (v ∈ l.take (i + 1) ↔ v ∈ l.take i ∨ v = l.getD i 0) from fun i v hi => by rw [take_getD l 0 (by omega)]; simp)
  have HTE := Lib.hid (show l.take k = l from List.take_of_length_le (by omega))
  clear ha hI hl
  go_enter Try.func18, Try.ntmps18
  go_upto_region 2 with fail
  clear mk1
  generalize w.alloc (.cells (falses m) 4) = W1 at *
  obtain ⟨g, hg⟩ : ∃ x, w.heap.size = x := ⟨_, rfl⟩
  have hg0 : w.heap.size ≤ g := by omega
  rw [hg] at r0
  rw [hg]
  clear hg
  go_wp2_with fail
  go_loopw [7] (fun v7 wr => ∃ i : Nat, v7 = .int .i64 i ∧ i ≤ k ∧ RowB wr g m (fun v => decide (v ∈ l.take i)) ∧ Below w.heap.size w wr) (fun v _ => 30000 - (intOf v).toNat)
  case atStart => exact ⟨0, rfl, Nat.zero_le _, r0.congr (fun v _ => by simp), b0⟩
  case round =>
    clear r0 b0
    obtain ⟨i, rfl, hi, r, q⟩ := hrel
    by_cases hlt : i < k
    · have hik : (i : Int) < (k : Int) := by omega
      obtain ⟨ge, oe, rfl, hge, hc⟩ := HA.out _ q (by omega)
      have c0 := hc i hlt
      have hx1 := HI1.out i hlt
      have HTI := Lib.hid (fun v => HT.out i v hlt)
      obtain ⟨x, hx⟩ : ∃ x, l.getD i 0 = x := ⟨_, rfl⟩
      have HX := Lib.hid hx
      rw [hx] at c0 hx1 HTI
      have hxm : (x : Int) < (m : Int) := by omega
      have hx0 : ¬ (x : Int) < 0 := by omega
      have hxm2 : ¬ (m : Int) ≤ (x : Int) := by omega
      have e1 := r.frozen x
      have e2 := r.cell hx1
      have r2 := r.set_ x true
      have q2 := q.setCell (p := ⟨g, x, none⟩) hg0 (.bool true)
      have g1 : decide ((x : Int) < 0) = false := decide_eq_false hx0
      have g2 : decide ((m : Int) ≤ (x : Int)) = false := decide_eq_false hxm2
      have HFIN := Lib.hid (show RowB (wr.setCell ⟨g, x, none⟩ (.bool true)) g m (fun v => decide (v ∈ l.take (i + 1))) from r2.congr (fun v _ => by
        by_cases hv : v ∈ l.take (i + 1)
        · rw [decide_eq_true hv]
          rcases (HTI.out v).1 hv with h | h
          · split
            · rfl
            · exact decide_eq_true h
          · rw [if_pos h]
        · rw [decide_eq_false hv, if_neg (fun h => hv ((HTI.out v).2 (.inr h))), decide_eq_false (fun h => hv ((HTI.out v).2 (.inl h)))]))
      by_cases hi0 : i = 0
      · have g3 : decide (0 < i) = false := decide_eq_false (by omega)
        clear hc hx r r2 hi0
        go_upto_region 5 with fail
        go_quiet (fail)
        have q2 := (below_drewN q nq).setCell (p := ⟨g, x, none⟩) hg0 (.bool true)
        have c0 : (wr.drewN nq).cell? _ = _ := c0
        have e1 : (wr.drewN nq).frozen? _ = _ := e1
        have e2 : (wr.drewN nq).cell? _ = _ := e2
        have r2 : RowB ((wr.drewN nq).setCell ⟨g, x, none⟩ (.bool true)) g m (fun v => decide (v ∈ l.take (i + 1))) := HFIN.out
        generalize wr.drewN nq = W2 at *
        go_wp2_with fail
        go_roundw
        case rel => exact ⟨i + 1, by simp, by omega, r2, q2⟩
        case measure => simp [intOf]; omega
      · have g3 : decide (0 < i) = true := decide_eq_true (by omega)
        obtain ⟨j, hj⟩ : ∃ j, i = j + 1 := ⟨i - 1, by omega⟩
        have c1 := hc j (by omega)
        have hlt2 := HI2.out j (by omega)
        have hlt3 : l.getD j 0 < x := by rw [← HX.out, hj]; exact hlt2
        obtain ⟨y, hy⟩ : ∃ x, l.getD j 0 = x := ⟨_, rfl⟩
        rw [hy] at c1 hlt3
        have hsub : (i : Int) - 1 = (j : Int) := by omega
        have hjk : (j : Int) < (k : Int) := by omega
        have g4 : decide ((x : Int) ≤ (y : Int)) = false := decide_eq_false (by omega)
        clear hc hx hy hlt2 hj r r2 hi0
        go_upto_region 5 with fail
        go_quiet (fail)
        have q2 := (below_drewN q nq).setCell (p := ⟨g, x, none⟩) hg0 (.bool true)
        have c0 : (wr.drewN nq).cell? _ = _ := c0
        have e1 : (wr.drewN nq).frozen? _ = _ := e1
        have e2 : (wr.drewN nq).cell? _ = _ := e2
        have r2 : RowB ((wr.drewN nq).setCell ⟨g, x, none⟩ (.bool true)) g m (fun v => decide (v ∈ l.take (i + 1))) := HFIN.out
        clear c1 hsub
        generalize wr.drewN nq = W2 at *
        go_wp2_with fail
        go_roundw
        case rel => exact ⟨i + 1, by simp, by omega, r2, q2⟩
        case measure => simp [intOf]; omega
    · have eik : k = i := by omega
      subst eik
      have hik : ¬ (k : Int) < (k : Int) := by omega
      rw [HTE.out] at r
      go_wp2_with fail
      go_ret2
      exact ⟨g, rfl, hg0, r, q⟩
end Go.Proofs.Ytoiafopndlnknaa
