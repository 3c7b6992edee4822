/-
  The document's Shells, inside, lowest.
-/
import Derived.Test.YtoiafopndlnknaaK5
set_option linter.unusedVariables false
set_option linter.unusedSimpArgs false
namespace Go.Proofs.Ytoiafopndlnknaa
open Go.RowKit Go.Shelf

set_option maxRecDepth 100000 in
set_option maxHeartbeats 2000000 in
theorem rshells_ok {w : World} {A : Option Addr} {c n : Nat} {E : Es} (ha : EA w A c E) (hF : Fine n E) :
    Calls Try.prog 32 #[.int .i64 (n : Int), .slice A E.length c] w fun e w' => ∃ v, e = .returned v ∧ RowL w' w.heap.size v (shellsL (num E n) n (most E n)) ∧ Below w.heap.size w w' := by
  have hn := hF.1
  rcases Nat.eq_zero_or_pos n with h0 | h0
  · subst h0
    have HE := Lib.hid (show shellsL (num E 0) 0 (most E 0) = [] from if_pos rfl)
    clear ha hF
    go_enter Try.func32, Try.ntmps32
    go_wp2_with fail
    go_loopw [5, 6] (fun v5 v6 wr => v5 = .slice none 0 0 ∧ v6 = .int .i64 0 ∧ w = wr) (fun _ _ _ => 0)
    case atStart => exact ⟨rfl, rfl, rfl⟩
    case round =>
      obtain ⟨rfl, rfl, rfl⟩ := hrel
      go_wp2_with fail
      go_ret
      exact ⟨_, rfl, by rw [HE.out]; exact RowL.nil _ _, Below.refl _ _⟩
  · have hn0 : (0 : Int) < (n : Int) := by omega
    have HA := Lib.hid (fun (W : World) (q : Below w.heap.size w W) => ha.below q)
    have HSH := Lib.hid (show shellsL (num E n) n (most E n) = (List.range (most E n + 1)).map (cntN (num E n) n) from if_neg (by omega))
    have HL := Lib.hid (fun k => coreL_len E n k)
    have HG := Lib.hid (fun k => geN_step (num E n) k n)
    have HGL := Lib.hid (fun k => geN_le (num E n) n k)
    have hM : most E n ≤ 20000 := by
      obtain ⟨v, _, e⟩ := (most_is E n).2.1 h0
      rw [e]
      exact num_le20 E n v hF.2.1
    obtain ⟨M, hMe⟩ : ∃ M, most E n = M := ⟨_, rfl⟩
    have HME := Lib.hid hMe
    rw [hMe] at hM
    clear ha hMe
    go_enter Try.func32, Try.ntmps32
    go_wp2_with fail
    go_loopw [5, 6] (fun v5 v6 wr => ∃ (k : Nat) (l : List Nat) (A2 : Option Addr) (m2 c2 : Nat), v5 = .slice A2 m2 c2 ∧ v6 = .int .i64 k ∧ k ≤ M + 1 ∧ Hid (l = (List.range k).map (cntN (num E n) n) ∧ l.length = m2 ∧ m2 = k) ∧ RowL wr w.heap.size (.slice A2 m2 c2) l ∧ Below w.heap.size w wr) (fun _ v _ => 30000 - (intOf v).toNat)
    case atStart => exact ⟨0, [], none, 0, 0, rfl, rfl, Nat.zero_le _, Lib.hid ⟨rfl, rfl, rfl⟩, RowL.nil _ _, Below.refl _ _⟩
    case round =>
      obtain ⟨k, l, A2, m2, c2, rfl, rfl, hk, HLL, hr, q⟩ := hrel
      have x := rdegeneracy_ok (HA.out _ q) hF
      rw [HME.out] at x
      by_cases hlt : k ≤ M
      · have hkM : (k : Int) ≤ (M : Int) := by omega
        go_wp2_with fail
        refine x.mono ?_
        rintro e w2 ⟨rfl, v1⟩
        have hr := hr.below v1
        have q := below_end q q.size v1
        clear x v1
        have x := rcore_ok (HA.out _ q) hF (k : Int)
        go_wp2_with fail
        refine x.mono ?_
        rintro e w3 ⟨va, rfl, ra, v1⟩
        have hr := hr.below v1
        have q := below_end q q.size v1
        obtain ⟨Aa, ca, rfl⟩ := ra.slice
        rw [HL.out k]
        clear x v1 ra
        have x := rcore_ok (HA.out _ q) hF ((k : Int) + 1)
        go_wp2_with fail
        refine x.mono ?_
        rintro e w4 ⟨vb, rfl, rb, v1⟩
        have hk1 : ((k : Int) + 1) = ((k + 1 : Nat) : Int) := by omega
        have hr := hr.below v1
        have q := below_end q q.size v1
        obtain ⟨Ab, cb, rfl⟩ := rb.slice
        rw [hk1, HL.out (k + 1)]
        clear x v1 rb
        have hgs := HG.out k
        have hgl1 := HGL.out k
        have hgl2 := HGL.out (k + 1)
        have HLS := Lib.hid (show (List.range (k + 1)).map (cntN (num E n) n) = l ++ [cntN (num E n) n k] from by rw [List.range_succ, List.map_append, HLL.out.1]; rfl)
        obtain ⟨a, hae⟩ : ∃ a, geN (num E n) n k = a := ⟨_, rfl⟩
        obtain ⟨b, hbe⟩ : ∃ a, geN (num E n) n (k + 1) = a := ⟨_, rfl⟩
        obtain ⟨y, hye⟩ : ∃ a, cntN (num E n) n k = a := ⟨_, rfl⟩
        rw [hae] at hgs hgl1 ⊢
        rw [hbe] at hgs hgl2 ⊢
        rw [hye] at hgs HLS
        rw [← hk1]
        have hd : (a : Int) - (b : Int) = (y : Int) := by omega
        clear hae hbe hye hgs hk1
        obtain ⟨t1, t2, t3, FIN⟩ := app_prep y hr q
        have FIN := Lib.hid FIN
        have hl2 : l.length ≤ 100000 := by rw [HLL.out.2.1, HLL.out.2.2]; omega
        clear hr q
        go_wp2_with (at_builtin; refine wpList_append_num rfl _ _ rfl w.heap.size (.slice A2 m2 c2) l y w4.heap.size rfl t1 rfl t2 hl2 t3 ?_; intro v' w5 g1 g2; obtain ⟨A3, c3, rfl, g3, g4⟩ := FIN.out v' w5 g1 g2; clear g1 g2)
        rw [HLL.out.2.1] at g3 ⊢
        go_roundw
        case rel => exact ⟨k + 1, l ++ [y], A3, m2 + 1, c3, rfl, by simp, by omega, Lib.hid ⟨HLS.out.symm, by rw [List.length_append, HLL.out.2.1]; rfl, by rw [HLL.out.2.2]⟩, g3, g4⟩
        case measure => simp [intOf]; omega
      · have hkM : ¬ (k : Int) ≤ (M : Int) := by omega
        have HF2 := Lib.hid (show shellsL (num E n) n (most E n) = l from by rw [HSH.out, HME.out, HLL.out.1, show k = M + 1 by omega])
        go_wp2_with fail
        refine x.mono ?_
        rintro e w2 ⟨rfl, v1⟩
        have hr := hr.below v1
        have q := below_end q q.size v1
        clear x v1
        go_wp2_with fail
        go_ret
        exact ⟨_, rfl, by rw [HF2.out]; exact hr, q⟩
set_option maxRecDepth 100000 in
set_option maxHeartbeats 1000000 in
theorem rhas_ok (w : World) (A : Option Addr) (c m : Nat) (l : List Nat) (hl : l.length = m) (ha : ArgI .i64 w A m c (fun i => ((l.getD i 0 : Nat) : Int))) (hm : m ≤ 20000) (v : Nat) :
    Calls Try.prog 67 #[.slice A m c, .int .i64 (v : Int)] w fun e w' => e = .returned (.bool (decide (v ∈ l))) ∧ w = w' := by
  have hcl := And.intro ha.1 ha.2.1
  obtain ⟨R, hR⟩ : ∃ R, decide (v ∈ l) = R := ⟨_, rfl⟩
  have HR := Lib.hid hR
  have HA := Lib.hid ha.2.2.1
  have HM := Lib.hid (show ∀ i, i < m → l.getD i 0 = v → v ∈ l from fun i hi e => by
    rw [← e, List.getD_eq_getElem?_getD, List.getElem?_eq_getElem (by omega)]
    exact List.getElem_mem _)
  have HN := Lib.hid (show (∀ i, i < m → l.getD i 0 ≠ v) → ¬ v ∈ l from fun h hv => by
    obtain ⟨i, hi, e⟩ := List.mem_iff_getElem.1 hv
    refine h i (by omega) ?_
    rw [List.getD_eq_getElem?_getD, List.getElem?_eq_getElem hi]
    exact e)
  obtain ⟨f, hf⟩ : ∃ f : Nat → Nat, (fun i => l.getD i 0) = f := ⟨_, rfl⟩
  have HF := Lib.hid (show ∀ i, l.getD i 0 = f i from fun i => by rw [← hf])
  rw [hR]
  clear hR ha hf hl
  go_enter Try.func67, Try.ntmps67
  go_wp2_with fail
  go_loopw [5] (fun v5 wr => ∃ i : Nat, v5 = .int .i64 i ∧ i ≤ m ∧ Hid (∀ j, j < i → l.getD j 0 ≠ v) ∧ w = wr) (fun v _ => 30000 - (intOf v).toNat)
  case atStart => exact ⟨0, rfl, Nat.zero_le _, Lib.hid (fun j hj => by omega), rfl⟩
  case round =>
    obtain ⟨i, rfl, hi, HJ, rfl⟩ := hrel
    by_cases hlt : i < m
    · have him : (i : Int) < (m : Int) := by omega
      obtain ⟨g, o, rfl, hg, hc⟩ := HA.out (by omega)
      have c0 := hc i hlt
      have HMI := Lib.hid (HM.out i hlt)
      have HJI := Lib.hid (show l.getD i 0 ≠ v → ∀ j, j < i + 1 → l.getD j 0 ≠ v from fun h j hj => by
        by_cases e : j = i
        · subst e; exact h
        · exact HJ.out j (by omega))
      obtain ⟨x, hx⟩ : ∃ x, l.getD i 0 = x := ⟨_, rfl⟩
      rw [hx] at c0 HMI HJI
      clear hc hx
      by_cases hxv : x = v
      · subst hxv
        have HY := Lib.hid (HMI.out rfl)
        go_wp2_with fail
        go_ret
        exact ⟨by rw [← HR.out, decide_eq_true HY.out]; rfl, rfl⟩
      · have hxv1 : ((x : Int) == (v : Int)) = false := by simp; omega
        have hxv2 : ¬ (x : Int) = (v : Int) := by omega
        have HJ2 := Lib.hid (HJI.out hxv)
        go_wp2_with fail
        go_roundw
        case rel => exact ⟨i + 1, by simp, by omega, HJ2, by trivial⟩
        case measure => simp [intOf]; omega
    · have eim : m = i := by omega
      subst eim
      have him : ¬ (m : Int) < (m : Int) := by omega
      have HNO := Lib.hid (HN.out HJ.out)
      go_wp2_with fail
      go_ret
      exact ⟨by rw [← HR.out, decide_eq_false HNO.out]; rfl, rfl⟩
set_option maxRecDepth 100000 in
set_option maxHeartbeats 2000000 in
theorem rinside_ok {w : World} {A : Option Addr} {c n : Nat} {E : Es} (ha : EA w A c E) (hF : Fine n E) (A2 : Option Addr) (c2 m2 : Nat) (l : List Nat) (hl : l.length = m2) (hb : ArgI .i64 w A2 m2 c2 (fun i => ((l.getD i 0 : Nat) : Int))) (hm2 : m2 ≤ 20000) :
    Calls Try.prog 48 #[.slice A E.length c, .slice A2 m2 c2] w fun e w' => e = .returned (.int .i64 (insN E l E.length : Nat)) ∧ w = w' := by
  have hm := hF.2.1
  have hcl := ha.len
  have HED := Lib.hid (fun i (hi : i < E.length) => ha.edge hi)
  have HH := Lib.hid (fun v => rhas_ok w A2 c2 m2 l hl hb hm2 v)
  have HS := Lib.hid (show ∀ k, insN E l (k + 1) = insN E l k + if (edge E k).1 ∈ l ∧ (edge E k).2 ∈ l then 1 else 0 from fun k => rfl)
  have HIL := Lib.hid (fun k => insN_le E l k)
  obtain ⟨m, hm'⟩ : ∃ m, E.length = m := ⟨_, rfl⟩
  rw [hm'] at hm hcl HED ⊢
  clear ha hF hm' hb hl
  go_enter Try.func48, Try.ntmps48
  go_wp2_with fail
  go_loopw [5, 6] (fun v5 v6 wr => ∃ i : Nat, v6 = .int .i64 i ∧ i ≤ m ∧ v5 = .int .i64 (insN E l i : Nat) ∧ w = wr) (fun _ v _ => 30000 - (intOf v).toNat)
  case atStart => exact ⟨0, rfl, Nat.zero_le _, rfl, rfl⟩
  case round =>
    obtain ⟨i, rfl, hi, rfl, rfl⟩ := hrel
    by_cases hlt : i < m
    · have him : (i : Int) < (m : Int) := by omega
      obtain ⟨g, o, rfl, hg, c0, c1⟩ := HED.out i hlt
      have HT := Lib.hid (HS.out i)
      have hq := HIL.out i
      obtain ⟨q, hq'⟩ : ∃ q, insN E l i = q := ⟨_, rfl⟩
      rw [hq'] at HT hq ⊢
      obtain ⟨⟨a, b⟩, hab⟩ : ∃ e, edge E i = e := ⟨_, rfl⟩
      rw [hab] at c0 c1 HT
      simp only [] at c0 c1 HT
      have xa := HH.out a
      have xb := HH.out b
      clear hq' hab
      by_cases h1 : a ∈ l
      · rw [decide_eq_true h1] at xa
        by_cases h2 : b ∈ l
        · rw [decide_eq_true h2] at xb
          have HT2 := Lib.hid (show insN E l (i + 1) = q + 1 from by rw [HT.out, if_pos ⟨h1, h2⟩])
          clear h1 h2
          go_wp2_with fail
          refine xa.mono ?_
          rintro e w' ⟨rfl, rfl⟩
          go_wp2_with fail
          refine xb.mono ?_
          rintro e w' ⟨rfl, rfl⟩
          go_wp2_with fail
          go_roundw
          case rel => exact ⟨i + 1, by simp, by omega, by rw [HT2.out]; first | rfl | simp, by trivial⟩
          case measure => simp [intOf]; omega
        · rw [decide_eq_false h2] at xb
          have HT2 := Lib.hid (show insN E l (i + 1) = q from by rw [HT.out, if_neg (fun h => h2 h.2)]; rfl)
          clear h1 h2
          go_wp2_with fail
          refine xa.mono ?_
          rintro e w' ⟨rfl, rfl⟩
          go_wp2_with fail
          refine xb.mono ?_
          rintro e w' ⟨rfl, rfl⟩
          go_wp2_with fail
          go_roundw
          case rel => exact ⟨i + 1, by simp, by omega, by rw [HT2.out], by trivial⟩
          case measure => simp [intOf]; omega
      · rw [decide_eq_false h1] at xa
        have HT2 := Lib.hid (show insN E l (i + 1) = q from by rw [HT.out, if_neg (fun h => h1 h.1)]; rfl)
        clear h1 xb
        go_wp2_with fail
        refine xa.mono ?_
        rintro e w' ⟨rfl, rfl⟩
        go_wp2_with fail
        go_roundw
        case rel => exact ⟨i + 1, by simp, by omega, by rw [HT2.out], by trivial⟩
        case measure => simp [intOf]; omega
    · have eim : m = i := by omega
      subst eim
      have him : ¬ (m : Int) < (m : Int) := by omega
      go_wp2_with fail
      go_ret
      exact ⟨rfl, rfl⟩
end Go.Proofs.Ytoiafopndlnknaa
