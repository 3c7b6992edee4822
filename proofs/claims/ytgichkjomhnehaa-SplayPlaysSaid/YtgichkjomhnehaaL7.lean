/-
  SplayAsks, walked.
-/
import Derived.Test.YtgichkjomhnehaaL3
set_option linter.unusedVariables false
set_option linter.unusedSimpArgs false
namespace Go.Proofs.Ytgichkjomhnehaa
open Go.RowKit Go.Shelf

theorem at_any (b s n : Nat) (Q : Nat → List Nat) (U : Nat → Int) (x : Nat) (K : Int) (w : World) (h : SQ w b s n Q U) (hx : x < n) :
    Calls Try.prog 25 #[.pointer (some ⟨b, 0, none⟩), .int .i64 (x : Int), .int .i64 K] w fun e w' => ∃ v, e = .returned v ∧ SQ w' b s n Q U ∧ Turns (· = s) w w' := by
  by_cases hK : K < 0 ∨ ((Q x).length : Int) ≤ K
  · exact (at_off b s n Q U x K w h hx hK).mono fun e w' ⟨h1, h2⟩ => ⟨_, h1, h2⟩
  · obtain ⟨k, rfl⟩ : ∃ k : Nat, K = k := ⟨K.toNat, by omega⟩
    have hk : k < (Q x).length := by omega
    exact (at_in b s n Q U x k _ w h hx (List.getElem?_eq_getElem hk)).mono fun e w' ⟨h1, h2⟩ => ⟨_, h1, h2⟩
/-- two rows that hold the same list -/
theorem rows_same {w : World} {B B' : Nat} {v v' : Value} {l : List Nat} (h : RowL w B v l) (h' : RowL w B' v' l) (hl : ∀ x ∈ l, x ≤ 1000000) (hn : l.length ≤ 100000) :
    ∃ A A' c c', v = .slice A l.length c ∧ v' = .slice A' l.length c' ∧ Calls Try.prog 17 #[.slice A l.length c, .slice A' l.length c'] w fun e w' => e = .returned (.bool true) ∧ Below w.heap.size w w' := by
  obtain ⟨A, c, hv, ha⟩ := h.arg hl
  obtain ⟨A', c', hv', ha'⟩ := h'.arg hl
  exact ⟨A, A', c, c', hv, hv', same_rows rfl rfl ha ha' hn⟩
set_option maxRecDepth 100000 in
set_option maxHeartbeats 2500000 in
theorem asks_walk (n c : Nat) (A : Option Addr) (z : Nat → Nat → Int) (w : World) (ha : ArgS [.u8, .u8, .u8, .i64] w A n c z) :
    Calls Try.prog 12 #[.slice A n c] w fun e w' => e = .returned (.bool true) ∧ Below w.heap.size w w' := by
  have hn63 := ha.2.1
  have hnc := ha.1
  have x0 : Calls Try.prog 21 #[.int .i64 40] w _ := new_ok 40 w (by decide)
  go_enter Try.func12, Try.ntmps12
  go_wp2_with fail
  refine x0.mono ?_
  rintro e w1 ⟨b, s, rfl, h, hb, hs, q⟩
  clear x0
  go_wp2_with fail
  go_loopw [5, 6, 7] (fun vk _ _ wr => ∃ k : Nat, vk = .int .i64 k ∧ k ≤ min n 200 ∧ SQ wr b s 40 (playP z k).1 (playP z k).2 ∧ Below w.heap.size w wr) (fun vk _ _ _ => 200 - (intOf vk).toNat)
  case atStart => exact ⟨0, rfl, Nat.zero_le _, h, q⟩
  case round =>
    clear h q
    obtain ⟨k, rfl, hk, h, q⟩ := hrel
    by_cases hlt : k < min n 200
    · obtain ⟨g, o, D, x, y, V, rfl, c0, c1, c2, c3, bD, bx, bY, bV, eD, ex, ey, eV⟩ := act_facts rfl ha (i := k) (by omega)
      have hg : g < w.heap.size := by
        obtain ⟨g', o', e', hg, _⟩ := ha.2.2.1 (by omega)
        cases e'
        exact hg
      have CELL := Lib.hid (show ∀ w', Below w.heap.size w w' → w'.cell? ⟨g, o + k * 4, none⟩ = some (.int .u8 (D : Int)) ∧ w'.cell? ⟨g, o + k * 4 + 1, none⟩ = some (.int .u8 (x : Int)) ∧ w'.cell? ⟨g, o + k * 4 + 2, none⟩ = some (.int .u8 (y : Int)) ∧ w'.cell? ⟨g, o + k * 4 + 3, none⟩ = some (.int .i64 V) from fun w' q' => ⟨(q'.cell (p := ⟨g, _, none⟩) hg).trans c0, (q'.cell (p := ⟨g, _, none⟩) hg).trans c1, (q'.cell (p := ⟨g, _, none⟩) hg).trans c2, (q'.cell (p := ⟨g, _, none⟩) hg).trans c3⟩)
      clear c0 c1 c2 c3
      obtain ⟨c0, c1, c2, c3⟩ := CELL.out wr q
      have hkn : (k : Int) < (n : Int) := by omega
      have hk2 : (k : Int) < 200 := by omega
      have HE := Lib.hid (show playP z (k + 1) = doP (playP z k) D x y V by rw [← eD, ← ex, ← ey, ← eV]; rfl)
      generalize playP z k = P at *
      obtain ⟨a, hea⟩ : ∃ a : Nat, y % 40 = a := ⟨_, rfl⟩
      obtain ⟨d, hed⟩ : ∃ d : Nat, x % 40 = d := ⟨_, rfl⟩
      have ha40 : a < 40 := by omega
      have hd40 : d < 40 := by omega
      have my : (y : Int) % 40 = (a : Int) := by omega
      have mx : (x : Int) % 40 = (d : Int) := by omega
      have my2 : (y : Int).tmod 40 = (a : Int) := by rw [Int.tmod_eq_emod_of_nonneg (by omega)]; exact my
      have mx2 : (x : Int).tmod 40 = (d : Int) := by rw [Int.tmod_eq_emod_of_nonneg (by omega)]; exact mx
      have wx : IntKind.i64.wrap (x : Int) = (x : Int) := by rw [IntKind.wrap_i64]; omega
      have wy : IntKind.i64.wrap (y : Int) = (y : Int) := by rw [IntKind.wrap_i64]; omega
      clear eD ex ey eV hea hed
      go_upto_region 7 with fail
      go_quiet (fail)
      have h : SQ (wr.drewN nq) b s 40 P.1 P.2 := h
      have q := below_drewN q nq
      clear c0 c1 c2 c3 mx my mx2 my2 wx wy
      generalize wr.drewN nq = W1 at *
      have x1 := pos_ok b s 40 _ _ a W1 h ha40
      go_wp2_with fail
      refine x1.mono ?_
      rintro e w2 ⟨_, rfl, _, h, hT⟩
      have q := below_step q hs hT
      clear x1
      have x1 := min_ok b s 40 _ _ d w2 h hd40
      go_wp2_with fail
      refine x1.mono ?_
      rintro e w3 ⟨_, rfl, _, h, hT⟩
      have q := below_step q hs hT
      clear x1
      have x1 := at_any b s 40 _ _ a (D : Int) w3 h ha40
      obtain ⟨c0, c1, c2, c3⟩ := CELL.out w3 q
      go_wp2_with fail
      refine x1.mono ?_
      rintro e w4 ⟨_, rfl, h, hT⟩
      have q := below_step q hs hT
      clear x1 c0 c1 c2 c3
      have x1 := sum_ok b s 40 _ _ a w4 h ha40
      go_wp2_with fail
      refine x1.mono ?_
      rintro e w5 ⟨rfl, h, hT⟩
      have q := below_step q hs hT
      clear x1
      have x1 := list_ok b s 40 _ _ d w5 h hd40
      go_wp2_with fail
      refine x1.mono ?_
      rintro e w6 ⟨_, rfl, _, h, hT⟩
      have q := below_step q hs hT
      clear x1
      have x1 := same_ok b s 40 _ _ a d w6 h ha40 hd40
      go_wp2_with fail
      refine x1.mono ?_
      rintro e w7 ⟨rfl, h, hT⟩
      have q := below_step q hs hT
      clear x1
      have x1 := len_ok b s 40 _ _ a w7 h ha40
      go_wp2_with fail
      refine x1.mono ?_
      rintro e w8 ⟨rfl, h, hT⟩
      have q := below_step q hs hT
      clear x1
      have x1 := copy_ok b s 40 _ _ w8 h
      go_wp2_with fail
      refine x1.mono ?_
      rintro e w9 ⟨_, _, rfl, _, _, _, hT⟩
      have h := h.below hT
      have q := below_end q q.size hT
      clear x1
      have x1 := do_ok b s P D x y V w9 h bD bx bY bV
      obtain ⟨c0, c1, c2, c3⟩ := CELL.out w9 q
      go_wp2_with fail
      refine x1.mono ?_
      rintro e w10 ⟨rfl, h2, hT⟩
      have q := below_step q hs hT
      rw [← HE.out] at h2
      clear x1 hT c0 c1 c2 c3 HE CELL
      go_wp2_with fail
      go_roundw
      case rel => exact ⟨k + 1, by simp, by omega, h2, q⟩
      case measure => simp [intOf]; omega
    · have hkm : k = min n 200 := by omega
      have x1 := played_ok n c A z wr (ha.below q)
      rw [← hkm] at x1
      have hlt2 := h.lt
      have HK := Lib.hid hkm
      have hall : ((k : Int) < (n : Int) ∧ ¬ (k : Int) < 200) ∨ ¬ (k : Int) < (n : Int) := by omega
      clear hkm
      rcases hall with ⟨j1, j2⟩ | j1
      all_goals
        go_wp2_with fail
        refine x1.mono ?_
        rintro e w2 ⟨b', s', rfl, h', hb', hs', hT⟩
        have h := h.below hT
        have q := below_end q q.size hT
        clear x1 hT
        generalize playP z k = P at *
        go_wp2_with fail
        go_loopw [9] (fun vk wr => ∃ k : Nat, vk = .int .i64 k ∧ k ≤ 40 ∧ SQ wr b s 40 P.1 P.2 ∧ SQ wr b' s' 40 P.1 P.2 ∧ Below w.heap.size w wr) (fun vk _ => 40 - (intOf vk).toNat)
        case atStart => exact ⟨0, rfl, Nat.zero_le _, h, h', q⟩
        case round =>
          clear h h' q
          obtain ⟨i, rfl, hi, h, h', q⟩ := hrel
          by_cases hlt : i < 40
          · have hi40 : (i : Int) < 40 := by omega
            have hlen := Lib.hid (h.len hlt)
            have hsB := h.lt.2
            have hsB' := h'.lt.2
            obtain ⟨u, hu⟩ : ∃ u, P.2 i = u := ⟨_, rfl⟩
            have v1 := value_ok b s 40 _ _ i wr h hlt
            have v2 := value_ok b' s' 40 _ _ i wr h' hlt
            rw [hu] at v1 v2
            have x3 := list_ok b s 40 _ _ i wr h hlt
            have hne : (u != u) = false := bne_self_eq_false u
            clear hu
            go_wp2_with fail
            refine v1.mono ?_
            rintro e w9 ⟨rfl, rfl⟩
            go_wp2_with fail
            refine v2.mono ?_
            rintro e w9 ⟨rfl, rfl⟩
            go_wp2_with fail
            (with_reducible refine x3.mono ?_); rintro e w3 ⟨v3, rfl, r3, h3, hT3⟩; have q3 := below_step q hs hT3; have h3' := h'.turns hT3 (by omega) (by omega); have x4 := list_ok b' s' 40 _ _ i w3 h3' hlt
            go_wp2_with fail
            (with_reducible refine x4.mono ?_); rintro e w4 ⟨v4, rfl, r4, h4', hT4⟩; have q4 := below_step q3 (by omega) hT4; have rr4 := r3.turns hT4 (by omega); have h4 := h3.turns hT4 (by omega) (by omega); obtain ⟨A1, A2, c1, c2, rfl, rfl, x5⟩ := rows_same rr4 r4 hlen.out.2 (by have := hlen.out.1; omega); clear r3 r4 rr4
            go_wp2_with fail
            (with_reducible refine x5.mono ?_); rintro e w5 ⟨rfl, b5⟩; have h5 := h4.below b5; have h5' := h4'.below b5; have q5 := below_end q4 q4.size b5
            go_wp2_with fail
            go_roundw
            case rel => exact ⟨i + 1, by simp, by omega, h5, h5', q5⟩
            case measure => simp [intOf]; omega
          · have hi40 : ¬ (i : Int) < 40 := by omega
            have x1 := works_ok wr
            go_wp2_with fail
            refine x1.mono ?_
            rintro e w9 ⟨rfl, b9⟩
            have q := below_end q q.size b9
            go_wp2_with fail
            go_ret
            exact ⟨rfl, q⟩
end Go.Proofs.Ytgichkjomhnehaa
