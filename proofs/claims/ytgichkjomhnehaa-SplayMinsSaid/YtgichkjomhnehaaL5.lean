/-
  SplayMins, walked.
-/
import Derived.Test.YtgichkjomhnehaaA3
set_option linter.unusedVariables false
set_option linter.unusedSimpArgs false
namespace Go.Proofs.Ytgichkjomhnehaa
open Go.RowKit Go.Shelf

set_option maxRecDepth 100000 in
set_option maxHeartbeats 2500000 in
theorem mins_walk (n c : Nat) (A : Option Addr) (z : Nat → Nat → Int) (w : World) (ha : ArgS [.u8, .u8, .u8, .i64] w A n c z) :
    Calls Try.prog 7 #[.slice A n c] w fun e w' => e = .returned (.bool true) ∧ Below w.heap.size w w' := by
  have hn63 := ha.2.1
  have hnc := ha.1
  have HWF := Lib.hid (cutZ_wf rfl ha)
  obtain ⟨w0, hmk, hrow, q0⟩ := make_acts w
  have hrow := hrow (cutZ z)
  obtain ⟨B, hB⟩ : ∃ B, w.heap.size = B := ⟨_, rfl⟩
  rw [hB] at hmk hrow
  have hB0 : B ≤ w0.heap.size := by rw [← hB]; exact q0.size
  have HB := Lib.hid hB
  clear hB
  go_enter Try.func7, Try.ntmps7
  go_upto_region 2 with fail
  clear hmk
  go_wp2_with fail
  go_loopw [3, 4, 5] (fun vs vk _ wr => ∃ (k : Nat) (A1 : Option Addr) (c1 : Nat), vk = .int .i64 k ∧ k ≤ n ∧ k ≤ 200 ∧ vs = .slice A1 k c1 ∧ RowA wr B (.slice A1 k c1) k (cutZ z) ∧ Below w.heap.size w wr ∧ B ≤ wr.heap.size) (fun _ vk _ _ => 200 - (intOf vk).toNat)
  case atStart => exact ⟨0, _, _, rfl, Nat.zero_le _, by omega, rfl, hrow, q0, hB0⟩
  case round =>
    clear hrow q0 hB0
    obtain ⟨k, A1, c1, rfl, hkn, hk2, rfl, hrow, q, hBr⟩ := hrel
    by_cases hlt : k < n ∧ k < 200
    · obtain ⟨hlt1, hlt2⟩ := hlt
      have ha1 := ha.below q
      obtain ⟨g, o, D, x, y, V, rfl, c0, c1', c2, c3, bD, bx, bY, bV, eD, ex, ey, eV⟩ := act_facts rfl ha1 (i := k) (by omega)
      have h1 : (k : Int) < (n : Int) := by omega
      have h2 : (k : Int) < 200 := by omega
      obtain ⟨M, hM⟩ : ∃ M, V.tmod 1099511627776 = M := ⟨_, rfl⟩
      have HE := Lib.hid (show cutZ z k 0 = (D : Int) ∧ cutZ z k 1 = (x : Int) ∧ cutZ z k 2 = (y : Int) ∧ cutZ z k 3 = M by
        refine ⟨?_, ?_, ?_, ?_⟩
        · rw [← eD]; rfl
        · rw [← ex]; rfl
        · rw [← ey]; rfl
        · rw [← hM, ← eV]; rfl)
      clear ha1 eD ex ey eV
      go_upto_region 7 with fail
      clear c0 c1' c2 c3
      have kA := Blk.new wr 47 #[.int .u8 (D : Int), .int .u8 (x : Int), .int .u8 (y : Int), .int .i64 M]
      have qA := below_new1 wr (.cells #[.int .u8 (D : Int), .int .u8 (x : Int), .int .u8 (y : Int), .int .i64 M] 47)
      have hrowA := hrow.below qA
      have qq := below_end q q.size qA
      generalize wr.alloc (.cells #[.int .u8 (D : Int), .int .u8 (x : Int), .int .u8 (y : Int), .int .i64 M] 47) = W1 at *
      have c0 := kA.cell 0
      have c1' := kA.cell 1
      have c2 := kA.cell 2
      have c3 := kA.cell 3
      simp at c0 c1' c2 c3
      have hB1 : B ≤ W1.heap.size := by have := qA.size; omega
      have FIN := Lib.hid (show ∀ (v' : Value) (w3 : World), RowA w3 B v' (k + 1) (cutZ z) → (W1.alloc (.cells #[.int .u8 (D : Int), .int .u8 (x : Int), .int .u8 (y : Int), .int .i64 M] 47)).grownBy w3 (Value.slice A1 k c1).ownBlock → ∃ A2 c2, v' = .slice A2 (k + 1) c2 ∧ RowA w3 B (.slice A2 (k + 1) c2) (k + 1) (cutZ z) ∧ Below w.heap.size w w3 ∧ B ≤ w3.heap.size from fun v' w3 h1 h2 => by
        obtain ⟨A2, c2, rfl⟩ := h1.slice
        have hl := hrowA.below (below_new1 W1 (.cells #[.int .u8 (D : Int), .int .u8 (x : Int), .int .u8 (y : Int), .int .i64 M] 47))
        refine ⟨A2, c2, rfl, h1, ((qq.trans ((Below.refl _ _).alloc qq.size _)).grown h2 (by have := qq.size; simp; omega) (fun j hj => by rw [HB.out]; exact (World.ownsRow.lt hl j hj).1)), by have := h2.size; simp at this; omega⟩)
      have hrowB := hrowA.below (below_new1 W1 (.cells #[.int .u8 (D : Int), .int .u8 (x : Int), .int .u8 (y : Int), .int .i64 M] 47))
      have kB := Blk.new W1 47 #[.int .u8 (D : Int), .int .u8 (x : Int), .int .u8 (y : Int), .int .i64 M]
      have HC := Lib.hid (show (W1.alloc (.cells #[.int .u8 (D : Int), .int .u8 (x : Int), .int .u8 (y : Int), .int .i64 M] 47)).cell? ⟨W1.heap.size, 0, none⟩ = some (.int .u8 (cutZ z k 0)) ∧ (W1.alloc (.cells #[.int .u8 (D : Int), .int .u8 (x : Int), .int .u8 (y : Int), .int .i64 M] 47)).cell? ⟨W1.heap.size, 1, none⟩ = some (.int .u8 (cutZ z k 1)) ∧ (W1.alloc (.cells #[.int .u8 (D : Int), .int .u8 (x : Int), .int .u8 (y : Int), .int .i64 M] 47)).cell? ⟨W1.heap.size, 2, none⟩ = some (.int .u8 (cutZ z k 2)) ∧ (W1.alloc (.cells #[.int .u8 (D : Int), .int .u8 (x : Int), .int .u8 (y : Int), .int .i64 M] 47)).cell? ⟨W1.heap.size, 3, none⟩ = some (.int .i64 (cutZ z k 3)) by
        rw [HE.out.1, HE.out.2.1, HE.out.2.2.1, HE.out.2.2.2]
        exact ⟨kB.cell 0, kB.cell 1, kB.cell 2, kB.cell 3⟩)
      have hB2 : B ≤ (W1.alloc (.cells #[.int .u8 (D : Int), .int .u8 (x : Int), .int .u8 (y : Int), .int .i64 M] 47)).heap.size := by simp; omega
      clear kA qA hrowA qq kB HE hM q hrow
      go_wp2_with (at_builtin; refine wpList_append_act rfl _ _ rfl B (.slice A1 k c1) k (cutZ z) W1.heap.size rfl hrowB rfl HC.out.1 HC.out.2.1 HC.out.2.2.1 HC.out.2.2.2 (by omega) hB2 ?_; intro v' w3 h1 h2; obtain ⟨A2, c2, rfl, d1, d2, d3⟩ := FIN.out v' w3 h1 h2; clear h1 h2)
      go_roundw
      case rel => exact ⟨k + 1, A2, c2, by simp, by omega, by omega, rfl, d1, d2, d3⟩
      case measure => simp [intOf]; omega
    · have hk : k = n ∨ k = 200 := by omega
      obtain ⟨A2, c2, e2, ha2⟩ := hrow.arg (fun i hi => HWF.out i (by omega))
      cases e2
      have x0 := played_ok k c1 A1 (cutZ z) wr ha2
      have hmin : min k 200 = k := Nat.min_eq_left hk2
      rw [hmin] at x0
      have hwr := q.size
      have HSM := Lib.hid (playP_small z k)
      clear ha2 hrow hmin
      have HX : (¬ (k : Int) < (n : Int)) ∨ ((k : Int) < (n : Int) ∧ ¬ (k : Int) < 200) := by omega
      clear hk hlt
      rcases HX with HX1 | ⟨HX1, HX2⟩
      all_goals
        go_wp2_with fail
        refine x0.mono ?_
        rintro e w1 ⟨b, s, rfl, h, hb, hs, q9⟩
        have q := below_end q hwr q9
        have hs : w.heap.size ≤ s := Nat.le_trans hwr hs
        clear x0 q9
        generalize playP (cutZ z) k = P at *
        obtain ⟨Q, U⟩ := P
        have h : SQ w1 b s 40 Q U := h
        have HAB := Lib.hid h.ab
        go_wp2_with fail
        go_loopw [7, 8, 9, 10, 11, 12, 13, 14, 15] (fun vx _ _ _ _ _ _ _ _ wr => ∃ x : Nat, vx = .int .i64 x ∧ x ≤ 40 ∧ SQ wr b s 40 Q U ∧ Below w.heap.size w wr) (fun vx _ _ _ _ _ _ _ _ _ => 40 - (intOf vx).toNat)
        case atStart => exact ⟨0, rfl, Nat.zero_le _, h, q⟩
        case round =>
          clear h q
          obtain ⟨x, rfl, hx, h, q⟩ := hrel
          by_cases hlt : x < 40
          · have hx40 : (x : Int) < 40 := by omega
            have HLX := Lib.hid (h.len hlt)
            have x1 := list_ok b s 40 _ _ x wr h hlt
            have hsr := h.lt.2.1
            obtain ⟨wo, hwo⟩ : ∃ wo, wo = wr.heap.size := ⟨_, rfl⟩
            rw [← hwo] at x1 hsr
            clear hwo
            go_wp2_with fail
            refine x1.mono ?_
            rintro e w2 ⟨v2, rfl, r, h, hT⟩
            have q := below_step q hs hT
            clear x1 hT
            obtain ⟨g, cc, rfl⟩ := r.form HLX.out.2 (List.length_pos_of_mem (HAB.out x hlt).1)
            have x1 := min_ok b s 40 Q U x w2 h hlt
            go_wp2_with fail
            refine x1.mono ?_
            rintro e w3 ⟨m, rfl, hm, h, hT⟩
            have q := below_step q hs hT
            have r := r.turns hT hsr
            have hm40 : m < 40 := ((HAB.out x hlt).2.2 m hm.1).1
            have hsm : sameB Q x m = true := decide_eq_true hm.1
            have HM := Lib.hid hm
            clear x1 hT hm
            have x1 := sum_ok b s 40 Q U x w3 h hlt
            have hts := tot_small HSM.out (Q x)
            have hTB : -43980465111040 ≤ tot U (Q x) ∧ tot U (Q x) ≤ 43980465111040 := by
              have := HLX.out.1
              generalize tot U (Q x) = T at *
              generalize (Q x).length = L at *
              omega
            have hfit : Fits (tot U (Q x)) := ⟨by omega, by omega⟩
            rw [show sumV (tot U (Q x)) = tot U (Q x) from if_pos hfit, show sumE (tot U (Q x)) = 0 from if_pos hfit] at x1
            clear hts hfit hTB
            go_wp2_with fail
            refine x1.mono ?_
            rintro e w4 ⟨rfl, h, hT⟩
            have q := below_step q hs hT
            have r := r.turns hT hsr
            clear x1 hT
            have x1 := same_ok b s 40 Q U x m w4 h hlt hm40
            rw [hsm] at x1
            obtain ⟨S, hS⟩ : ∃ S, tot U (Q x) = S := ⟨_, rfl⟩
            rw [hS]
            have HS := Lib.hid hS
            clear hS hsm
            go_wp2_with fail
            refine x1.mono ?_
            rintro e w5 ⟨rfl, h, hT⟩
            have q := below_step q hs hT
            have r := r.turns hT hsr
            clear x1 hT
            obtain ⟨L, hL⟩ : ∃ L, (Q x).length = L := ⟨_, rfl⟩
            rw [hL] at r ⊢
            have hL40 : L ≤ 40 := by have := HLX.out.1; omega
            have HL := Lib.hid hL
            clear hL
            go_wp2_with fail
            go_loopw [11, 13, 14, 15] (fun vS vk _ _ wr => ∃ k : Nat, vk = .int .i64 k ∧ vS = .int .i64 (tot U ((Q x).drop k)) ∧ k ≤ L ∧ SQ wr b s 40 Q U ∧ RowL wr wo (.slice (some ⟨g, 0, none⟩) L cc) (Q x) ∧ Below w.heap.size w wr) (fun _ vk _ _ _ => L - (intOf vk).toNat)
            case atStart => exact ⟨0, rfl, by rw [List.drop_zero, HS.out], Nat.zero_le _, h, r, q⟩
            case round =>
              clear h r q
              obtain ⟨k, rfl, rfl, hk, h, r, q⟩ := hrel
              by_cases hkl : k < L
              · have hkL : (k : Int) < (L : Int) := by omega
                have hkl2 : k < (Q x).length := by rw [HL.out]; exact hkl
                obtain ⟨y, hy⟩ : ∃ y, (Q x)[k]? = some y := ⟨_, List.getElem?_eq_getElem hkl2⟩
                have hym : y ∈ Q x := List.mem_of_getElem? hy
                obtain ⟨hy40, hyq⟩ := (HAB.out x hlt).2.2 y hym
                have c0 := r.cell HLX.out.2 (i := k) hkl2
                rw [show (Q x).getD k 0 = y by rw [List.getD_eq_getElem?_getD, hy]; rfl] at c0
                have hmin := HM.out.2 y hym
                have hb1 := HSM.out y
                have hb2 := HSM.out m
                have hts := tot_small HSM.out ((Q x).drop k)
                have hTB : -43980465111040 ≤ tot U ((Q x).drop k) ∧ tot U ((Q x).drop k) ≤ 43980465111040 := by
                  have : ((Q x).drop k).length ≤ 40 := by rw [List.length_drop, HL.out]; omega
                  generalize tot U ((Q x).drop k) = T at *
                  generalize ((Q x).drop k).length = L at *
                  omega
                have x1 := value_ok b s 40 Q U y wr h hy40
                have x2 := value_ok b s 40 Q U m wr h hm40
                have HD := Lib.hid (show tot U ((Q x).drop (k + 1)) = tot U ((Q x).drop k) - U y by
                  have : (Q x).drop k = y :: (Q x).drop (k + 1) := by rw [List.drop_eq_getElem_cons hkl2, (List.getElem?_eq_some_iff.1 hy).2]
                  rw [this, tot_cons]; omega)
                have HDk := Lib.hid (show (Q x).drop k = (Q x).drop k from rfl)
                obtain ⟨u, hu⟩ : ∃ u, U y = u := ⟨_, rfl⟩
                obtain ⟨um, hum⟩ : ∃ um, U m = um := ⟨_, rfl⟩
                obtain ⟨S5, hS5⟩ : ∃ S5, tot U ((Q x).drop k) = S5 := ⟨_, rfl⟩
                have HD := Lib.hid (show tot U ((Q x).drop (k + 1)) = S5 - u by rw [HD.out, hu, hS5])
                have hb1 : -1099511627776 < u ∧ u < 1099511627776 := by rw [← hu]; exact hb1
                have hb2 : -1099511627776 < um ∧ um < 1099511627776 := by rw [← hum]; exact hb2
                have hTB : -43980465111040 ≤ S5 ∧ S5 ≤ 43980465111040 := by rw [← hS5]; exact hTB
                have hmin : um < u ∨ (um = u ∧ m ≤ y) := by rw [← hu, ← hum]; exact hmin
                rw [hu] at x1
                rw [hum] at x2
                rw [hS5]
                have n1 : ¬ u < um := by omega
                clear hu hum hS5 hts hy hym hyq hkl2 HDk
                by_cases hq : u = um
                · have n2 : (u == um) = true := by rw [beq_iff_eq]; exact hq
                  have n3 : ¬ (y : Int) < (m : Int) := by omega
                  have HQ := Lib.hid hq
                  clear hq hmin
                  go_wp2_with (first | (go_at_call 29; (with_reducible refine x1.mono ?_); rintro e w' ⟨rfl, rfl⟩) | (go_at_call 29; (with_reducible refine x2.mono ?_); rintro e w' ⟨rfl, rfl⟩))
                  go_roundw
                  case rel => exact ⟨k + 1, by simp, by rw [HD.out], by omega, h, r, q⟩
                  case measure => simp [intOf]; omega
                · have n2 : (u == um) = false := by rw [beq_eq_false_iff_ne]; exact hq
                  clear hmin
                  go_wp2_with (first | (go_at_call 29; (with_reducible refine x1.mono ?_); rintro e w' ⟨rfl, rfl⟩) | (go_at_call 29; (with_reducible refine x2.mono ?_); rintro e w' ⟨rfl, rfl⟩))
                  go_roundw
                  case rel => exact ⟨k + 1, by simp, by rw [HD.out], by omega, h, r, q⟩
                  case measure => simp [intOf]; omega
              · have hkL : ¬ (k : Int) < (L : Int) := by omega
                have hD0 : tot U ((Q x).drop k) = 0 := by rw [List.drop_eq_nil_of_le (by rw [HL.out]; omega)]; rfl
                rw [hD0]
                clear hD0
                go_wp2_with fail
                go_roundw
                case rel => exact ⟨x + 1, by simp, by omega, h, q⟩
                case measure => simp [intOf]; omega
          · have hx40 : ¬ (x : Int) < 40 := by omega
            have x1 := works_ok wr
            go_wp2_with fail
            refine x1.mono ?_
            rintro e w9 ⟨rfl, b9⟩
            have q := below_end q q.size b9
            go_wp2_with fail
            go_ret
            exact ⟨rfl, q⟩
end Go.Proofs.Ytgichkjomhnehaa
