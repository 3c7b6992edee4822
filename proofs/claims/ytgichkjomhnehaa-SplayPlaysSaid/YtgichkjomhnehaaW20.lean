/-
  do, played: the steps in small numbers.
-/
import Derived.Test.YtgichkjomhnehaaW19
set_option linter.unusedVariables false
set_option linter.unusedSimpArgs false
namespace Go.Proofs.Ytgichkjomhnehaa
open Go.RowKit Go.Shelf

/-- where x is in a list -/
def posL : List Nat → Nat → Nat
  | [], _ => 0
  | a :: l, x => if a = x then 0 else posL l x + 1
theorem posL_eq : ∀ {l : List Nat} {k x : Nat}, l.Nodup → l[k]? = some x → posL l x = k
  | [], k, x, _, h => by simp at h
  | a :: l, 0, x, _, h => by simp at h; simp [posL, h]
  | a :: l, k + 1, x, hn, h => by
    have h2 : l[k]? = some x := by simpa using h
    have hne : a ≠ x := fun e => (List.nodup_cons.1 hn).1 (e ▸ List.mem_of_getElem? h2)
    simp [posL, hne, posL_eq (List.nodup_cons.1 hn).2 h2]
/-- sequences and values -/
abbrev PS := (Nat → List Nat) × (Nat → Int)
def doP (P : PS) (D x y : Nat) (V : Int) : PS :=
  if D % 6 ≤ 2 then (if y % 40 ∈ P.1 (x % 40) then P else (joinQ P.1 (x % 40) (y % 40), P.2))
  else if D % 6 = 3 then (splitQ P.1 (x % 40) (posL (P.1 (x % 40)) (x % 40)), P.2)
  else if D % 6 = 4 then (revQ P.1 (x % 40), P.2)
  else (P.1, setU P.2 (x % 40) V)
set_option maxRecDepth 100000 in
set_option maxHeartbeats 1000000 in
theorem do_ok (b s : Nat) (P : PS) (D x y : Nat) (V : Int) (w : World) (h : SQ w b s 40 P.1 P.2) (hD : D ≤ 255) (hx : x ≤ 255) (hy : y ≤ 255) (hV : Fits V) :
    Calls Try.prog 30 #[.pointer (some ⟨b, 0, none⟩), .agg #[.int .u8 (D : Int), .int .u8 (x : Int), .int .u8 (y : Int), .int .i64 V]] w fun e w' => e = .returned (.bool true) ∧ SQ w' b s 40 (doP P D x y V).1 (doP P D x y V).2 ∧ Turns (· = s) w w' := by
  have q := below_new1 w (.cells #[.int .u8 (D : Int), .int .u8 (x : Int), .int .u8 (y : Int), .int .i64 V] 47)
  have kB := Blk.new w 47 #[.int .u8 (D : Int), .int .u8 (x : Int), .int .u8 (y : Int), .int .i64 V]
  have h := h.below q
  have hT0 := Turns.of_below q (· = s)
  obtain ⟨a, ha⟩ : ∃ a, x % 40 = a := ⟨_, rfl⟩
  obtain ⟨c, hc⟩ : ∃ c, y % 40 = c := ⟨_, rfl⟩
  have ha40 : a < 40 := by omega
  have hc40 : c < 40 := by omega
  have m1 : ((x : Int)).tmod 40 = (a : Int) := by rw [Int.tmod_eq_emod_of_nonneg (by omega)]; omega
  have m2 : ((y : Int)).tmod 40 = (c : Int) := by rw [Int.tmod_eq_emod_of_nonneg (by omega)]; omega
  have m1' : ((x : Int)) % 40 = (a : Int) := by omega
  have m2' : ((y : Int)) % 40 = (c : Int) := by omega
  have w1 : IntKind.i64.wrap (x : Int) = (x : Int) := by rw [IntKind.wrap_i64]; omega
  have w2 : IntKind.i64.wrap (y : Int) = (y : Int) := by rw [IntKind.wrap_i64]; omega
  go_enter Try.func30, Try.ntmps30
  go_upto_region 1 with fail
  generalize w.alloc (.cells #[.int .u8 (D : Int), .int .u8 (x : Int), .int .u8 (y : Int), .int .i64 V] 47) = W0 at *
  have c0 := kB.cell 0
  have c1 := kB.cell 1
  have c2 := kB.cell 2
  have c3 := kB.cell 3
  simp at c0 c1 c2 c3
  go_quiet (fail)
  have h : SQ (W0.drewN nq) b s 40 P.1 P.2 := h
  have hT0 := hT0.drewN nq
  replace c0 : (W0.drewN nq).cell? ⟨w.heap.size, 0, none⟩ = some (.int .u8 (D : Int)) := c0
  replace c3 : (W0.drewN nq).cell? ⟨w.heap.size, 3, none⟩ = some (.int .i64 V) := c3
  generalize W0.drewN nq = W1 at *
  clear c1 c2 kB m1 m2 m1' m2' w1 w2 q
  have hd6 : D % 6 = 0 ∨ D % 6 = 1 ∨ D % 6 = 2 ∨ D % 6 = 3 ∨ D % 6 = 4 ∨ D % 6 = 5 := by omega
  have hlt := h.lt
  have hab := h.abs (x := a) ha40
  rcases hd6 with hd | hd6
  · have n1 : (D : Int) % 6 = 0 := by omega
    have n2 : (D : Int).tmod 6 = 0 := by rw [Int.tmod_eq_emod_of_nonneg (by omega)]; exact n1
    by_cases hs : c ∈ P.1 a
    · have hdo : doP P D x y V = P := by unfold doP; rw [if_pos (by omega), ha, hc, if_pos hs]
      have HDO := Lib.hid hdo
      have x1 := same_ok b s 40 P.1 P.2 a c W1 h ha40 hc40
      rw [show sameB P.1 a c = true from decide_eq_true hs] at x1
      have HS := Lib.hid hs
      clear hdo hs hab hd ha hc
      go_wp2_with fail
      refine x1.mono ?_
      rintro e w2 ⟨rfl, h2, hT2⟩
      have hT := hT0.trans hT2
      have x2 := join_have b s 40 P.1 P.2 a c w2 h2 ha40 hc40 HS.out
      clear x1 hT0 hT2 c0
      go_wp2_with fail
      refine x2.mono ?_
      rintro e w3 ⟨rfl, h3, hT3⟩
      have hT := hT.trans hT3
      clear x2
      go_wp2_with fail
      go_ret
      rw [HDO.out]
      exact ⟨rfl, h3, hT⟩
    · have hdo : doP P D x y V = (joinQ P.1 a c, P.2) := by unfold doP; rw [if_pos (by omega), ha, hc, if_neg hs]
      have HDO := Lib.hid hdo
      have x1 := same_ok b s 40 P.1 P.2 a c W1 h ha40 hc40
      rw [show sameB P.1 a c = false from decide_eq_false hs] at x1
      have HS := Lib.hid hs
      clear hdo hs hab hd ha hc
      go_wp2_with fail
      refine x1.mono ?_
      rintro e w2 ⟨rfl, h2, hT2⟩
      have hT := hT0.trans hT2
      have x2 := join_ok b s 40 P.1 P.2 a c w2 h2 ha40 hc40 HS.out
      clear x1 hT0 hT2 c0
      go_wp2_with fail
      refine x2.mono ?_
      rintro e w3 ⟨rfl, h3, hT3⟩
      have hT := hT.trans hT3
      clear x2
      go_wp2_with fail
      go_ret
      rw [HDO.out]
      exact ⟨rfl, h3, hT⟩
  rcases hd6 with hd | hd6
  · have n1 : (D : Int) % 6 = 1 := by omega
    have n2 : (D : Int).tmod 6 = 1 := by rw [Int.tmod_eq_emod_of_nonneg (by omega)]; exact n1
    by_cases hs : c ∈ P.1 a
    · have hdo : doP P D x y V = P := by unfold doP; rw [if_pos (by omega), ha, hc, if_pos hs]
      have HDO := Lib.hid hdo
      have x1 := same_ok b s 40 P.1 P.2 a c W1 h ha40 hc40
      rw [show sameB P.1 a c = true from decide_eq_true hs] at x1
      have HS := Lib.hid hs
      clear hdo hs hab hd ha hc
      go_wp2_with fail
      refine x1.mono ?_
      rintro e w2 ⟨rfl, h2, hT2⟩
      have hT := hT0.trans hT2
      have x2 := join_have b s 40 P.1 P.2 a c w2 h2 ha40 hc40 HS.out
      clear x1 hT0 hT2 c0
      go_wp2_with fail
      refine x2.mono ?_
      rintro e w3 ⟨rfl, h3, hT3⟩
      have hT := hT.trans hT3
      clear x2
      go_wp2_with fail
      go_ret
      rw [HDO.out]
      exact ⟨rfl, h3, hT⟩
    · have hdo : doP P D x y V = (joinQ P.1 a c, P.2) := by unfold doP; rw [if_pos (by omega), ha, hc, if_neg hs]
      have HDO := Lib.hid hdo
      have x1 := same_ok b s 40 P.1 P.2 a c W1 h ha40 hc40
      rw [show sameB P.1 a c = false from decide_eq_false hs] at x1
      have HS := Lib.hid hs
      clear hdo hs hab hd ha hc
      go_wp2_with fail
      refine x1.mono ?_
      rintro e w2 ⟨rfl, h2, hT2⟩
      have hT := hT0.trans hT2
      have x2 := join_ok b s 40 P.1 P.2 a c w2 h2 ha40 hc40 HS.out
      clear x1 hT0 hT2 c0
      go_wp2_with fail
      refine x2.mono ?_
      rintro e w3 ⟨rfl, h3, hT3⟩
      have hT := hT.trans hT3
      clear x2
      go_wp2_with fail
      go_ret
      rw [HDO.out]
      exact ⟨rfl, h3, hT⟩
  rcases hd6 with hd | hd6
  · have n1 : (D : Int) % 6 = 2 := by omega
    have n2 : (D : Int).tmod 6 = 2 := by rw [Int.tmod_eq_emod_of_nonneg (by omega)]; exact n1
    by_cases hs : c ∈ P.1 a
    · have hdo : doP P D x y V = P := by unfold doP; rw [if_pos (by omega), ha, hc, if_pos hs]
      have HDO := Lib.hid hdo
      have x1 := same_ok b s 40 P.1 P.2 a c W1 h ha40 hc40
      rw [show sameB P.1 a c = true from decide_eq_true hs] at x1
      have HS := Lib.hid hs
      clear hdo hs hab hd ha hc
      go_wp2_with fail
      refine x1.mono ?_
      rintro e w2 ⟨rfl, h2, hT2⟩
      have hT := hT0.trans hT2
      have x2 := join_have b s 40 P.1 P.2 a c w2 h2 ha40 hc40 HS.out
      clear x1 hT0 hT2 c0
      go_wp2_with fail
      refine x2.mono ?_
      rintro e w3 ⟨rfl, h3, hT3⟩
      have hT := hT.trans hT3
      clear x2
      go_wp2_with fail
      go_ret
      rw [HDO.out]
      exact ⟨rfl, h3, hT⟩
    · have hdo : doP P D x y V = (joinQ P.1 a c, P.2) := by unfold doP; rw [if_pos (by omega), ha, hc, if_neg hs]
      have HDO := Lib.hid hdo
      have x1 := same_ok b s 40 P.1 P.2 a c W1 h ha40 hc40
      rw [show sameB P.1 a c = false from decide_eq_false hs] at x1
      have HS := Lib.hid hs
      clear hdo hs hab hd ha hc
      go_wp2_with fail
      refine x1.mono ?_
      rintro e w2 ⟨rfl, h2, hT2⟩
      have hT := hT0.trans hT2
      have x2 := join_ok b s 40 P.1 P.2 a c w2 h2 ha40 hc40 HS.out
      clear x1 hT0 hT2 c0
      go_wp2_with fail
      refine x2.mono ?_
      rintro e w3 ⟨rfl, h3, hT3⟩
      have hT := hT.trans hT3
      clear x2
      go_wp2_with fail
      go_ret
      rw [HDO.out]
      exact ⟨rfl, h3, hT⟩
  rcases hd6 with hd | hd6
  · have n1 : (D : Int) % 6 = 3 := by omega
    have n2 : (D : Int).tmod 6 = 3 := by rw [Int.tmod_eq_emod_of_nonneg (by omega)]; exact n1
    have hdo : ∀ k, IsPos P.1 a k → doP P D x y V = (splitQ P.1 a k, P.2) := fun k hk => by
      unfold doP
      rw [if_neg (by omega), if_pos hd, ha, posL_eq hab.2.1 hk]
    have HDO := Lib.hid hdo
    have x1 := split_ok b s 40 P.1 P.2 a W1 h ha40
    clear hdo hab hd ha hc
    go_wp2_with fail
    refine x1.mono ?_
    rintro e w2 ⟨k, hk, rfl, h2, hT2⟩
    have hT := hT0.trans hT2
    have HK := Lib.hid (HDO.out k hk)
    clear x1 hk
    go_wp2_with fail
    go_ret
    rw [HK.out]
    exact ⟨rfl, h2, hT⟩
  rcases hd6 with hd | hd6
  · have n1 : (D : Int) % 6 = 4 := by omega
    have n2 : (D : Int).tmod 6 = 4 := by rw [Int.tmod_eq_emod_of_nonneg (by omega)]; exact n1
    have hdo : doP P D x y V = (revQ P.1 a, P.2) := by unfold doP; rw [if_neg (by omega), if_neg (by omega), if_pos hd, ha]
    have HDO := Lib.hid hdo
    have x1 := reverse_ok b s 40 P.1 P.2 a W1 h ha40
    clear hdo hab hd ha hc
    go_wp2_with fail
    refine x1.mono ?_
    rintro e w2 ⟨rfl, h2, hT2⟩
    have hT := hT0.trans hT2
    clear x1
    go_wp2_with fail
    go_ret
    rw [HDO.out]
    exact ⟨rfl, h2, hT⟩
  have hd := hd6
  have n1 : (D : Int) % 6 = 5 := by omega
  have n2 : (D : Int).tmod 6 = 5 := by rw [Int.tmod_eq_emod_of_nonneg (by omega)]; exact n1
  have hdo : doP P D x y V = (P.1, setU P.2 a V) := by unfold doP; rw [if_neg (by omega), if_neg (by omega), if_neg (by omega), ha]
  have HDO := Lib.hid hdo
  have x1 := set_ok b s 40 P.1 P.2 a V W1 h ha40 hV
  clear hdo hab hd ha hc
  go_wp2_with fail
  refine x1.mono ?_
  rintro e w2 ⟨rfl, h2, hT2⟩
  have hT := hT0.trans hT2
  clear x1
  go_wp2_with fail
  go_ret
  rw [HDO.out]
  exact ⟨rfl, h2, hT⟩
def playP (z : Nat → Nat → Int) : Nat → PS
  | 0 => (fun x => [x], fun _ => 0)
  | k + 1 => doP (playP z k) (z k 0).toNat (z k 1).toNat (z k 2).toNat (z k 3)
/-- one step of an argument -/
theorem act_facts {ks : List IntKind} (hks : ks = [.u8, .u8, .u8, .i64]) {w : World} {A : Option Addr} {n c : Nat} {z : Nat → Nat → Int} (ha : ArgS ks w A n c z) {i : Nat} (hi : i < n) :
    ∃ g o D x y : Nat, ∃ V : Int, A = some ⟨g, o, none⟩ ∧ w.cell? ⟨g, o + i * 4, none⟩ = some (.int .u8 (D : Int)) ∧ w.cell? ⟨g, o + i * 4 + 1, none⟩ = some (.int .u8 (x : Int)) ∧ w.cell? ⟨g, o + i * 4 + 2, none⟩ = some (.int .u8 (y : Int)) ∧ w.cell? ⟨g, o + i * 4 + 3, none⟩ = some (.int .i64 V) ∧
      D ≤ 255 ∧ x ≤ 255 ∧ y ≤ 255 ∧ Fits V ∧ (z i 0).toNat = D ∧ (z i 1).toNat = x ∧ (z i 2).toNat = y ∧ z i 3 = V := by
  subst hks
  obtain ⟨g, o, rfl, hg, hc⟩ := ha.2.2.1 (by omega)
  have c0 := hc i hi 0 _ rfl
  have c1 := hc i hi 1 _ rfl
  have c2 := hc i hi 2 _ rfl
  have c3 := hc i hi 3 _ rfl
  have b0 := wf_u8 (ha.2.2.2 i hi 0 _ rfl)
  have b1 := wf_u8 (ha.2.2.2 i hi 1 _ rfl)
  have b2 := wf_u8 (ha.2.2.2 i hi 2 _ rfl)
  have b3 := wf_i64 (ha.2.2.2 i hi 3 _ rfl)
  refine ⟨g, o, (z i 0).toNat, (z i 1).toNat, (z i 2).toNat, z i 3, rfl, ?_, ?_, ?_, ?_, by omega, by omega, by omega, b3, rfl, rfl, rfl, rfl⟩
  · rw [show (((z i 0).toNat : Nat) : Int) = z i 0 by omega]; exact c0
  · rw [show (((z i 1).toNat : Nat) : Int) = z i 1 by omega, Nat.add_assoc]; exact c1
  · rw [show (((z i 2).toNat : Nat) : Int) = z i 2 by omega, Nat.add_assoc]; exact c2
  · rw [Nat.add_assoc]; exact c3
/-- what played returns -/
def Played (w : World) (z : Nat → Nat → Int) (m : Nat) (e : Ending) (w' : World) : Prop := ∃ b s, e = .returned (.pointer (some ⟨b, 0, none⟩)) ∧ SQ w' b s 40 (playP z m).1 (playP z m).2 ∧ w.heap.size ≤ b ∧ w.heap.size ≤ s ∧ Below w.heap.size w w'
set_option maxRecDepth 100000 in
set_option maxHeartbeats 1000000 in
theorem played_ok (n c : Nat) (A : Option Addr) (z : Nat → Nat → Int) (w : World) (ha : ArgS [.u8, .u8, .u8, .i64] w A n c z) :
    Calls Try.prog 13 #[.slice A n c] w fun e w' => Played w z (min n 200) e w' := by
  have hn63 := ha.2.1
  have hnc := ha.1
  have x0 : Calls Try.prog 21 #[.int .i64 40] w _ := new_ok 40 w (by decide)
  go_enter Try.func13, Try.ntmps13
  go_wp2_with fail
  refine x0.mono ?_
  rintro e w1 ⟨b, s, rfl, h, hb, hs, q⟩
  clear x0
  go_wp2_with fail
  go_loopw [5] (fun vk wr => ∃ k : Nat, vk = .int .i64 k ∧ k ≤ min n 200 ∧ SQ wr b s 40 (playP z k).1 (playP z k).2 ∧ Below w.heap.size w wr) (fun vk _ => 200 - (intOf vk).toNat)
  case atStart => exact ⟨0, rfl, Nat.zero_le _, h, q⟩
  case round =>
    clear h q
    obtain ⟨k, rfl, hk, h, q⟩ := hrel
    by_cases hlt : k < min n 200
    · have ha1 := ha.below q
      obtain ⟨g, o, D, x, y, V, rfl, c0, c1, c2, c3, bD, bx, bY, bV, eD, ex, ey, eV⟩ := act_facts rfl ha1 (i := k) (by omega)
      have hkn : (k : Int) < (n : Int) := by omega
      have hk2 : (k : Int) < 200 := by omega
      have x1 := do_ok b s (playP z k) D x y V wr h bD bx bY bV
      have HE := Lib.hid (show playP z (k + 1) = doP (playP z k) D x y V by rw [← eD, ← ex, ← ey, ← eV]; rfl)
      clear ha1 eD ex ey eV h
      go_wp2_with fail
      refine x1.mono ?_
      rintro e w2 ⟨rfl, h2, hT⟩
      have q := below_step q hs hT
      rw [← HE.out] at h2
      clear x1 hT c0 c1 c2 c3 HE
      go_wp2_with fail
      go_roundw
      case rel => exact ⟨k + 1, by simp, by omega, h2, q⟩
      case measure => simp [intOf]; omega
    · have hkm : k = min n 200 := by omega
      have HK := Lib.hid hkm
      have HS := Lib.hid (And.intro h q)
      clear hkm h q
      by_cases hkn : k < n
      · have hkn1 : (k : Int) < (n : Int) := by omega
        have hk2 : ¬ (k : Int) < 200 := by omega
        go_wp2_with fail
        go_ret
        rw [← HK.out]
        exact ⟨b, s, rfl, HS.out.1, hb, hs, HS.out.2⟩
      · have hkn1 : ¬ (k : Int) < (n : Int) := by omega
        go_wp2_with fail
        go_ret
        rw [← HK.out]
        exact ⟨b, s, rfl, HS.out.1, hb, hs, HS.out.2⟩
end Go.Proofs.Ytgichkjomhnehaa
