/-
  SplayPlays, walked.
-/
import Derived.Test.YtgichkjomhnehaaT16
import Derived.Test.YtgichkjomhnehaaL9
set_option linter.unusedVariables false
set_option linter.unusedSectionVars false
set_option linter.unusedSimpArgs false
namespace Go.Proofs.Ytgichkjomhnehaa
open Go.RowKit Go.Shelf

/-- both sides and the step's own box -/
structure PL (w0 w : World) (p p2 : Option Addr) (c0 c n : Nat) (Q : Nat → List Nat) (U : Nat → Int) (Q2 : Nat → List Nat) (U2 : Nat → Int) (er : Int) (bx : Nat) (cs : Array Value) : Prop where
  s : SS w p c0 c n Q U er
  r : RS w p2 c n Q2 U2 er
  box : Blk w bx 55 cs
  hb : c ≤ bx
  hc : w0.heap.size ≤ c0
  q : Below w0.heap.size w0 w
section
variable {w0 w w' : World} {p p2 : Option Addr} {c0 c n : Nat} {Q Q' Q2 : Nat → List Nat} {U U' U2 : Nat → Int} {er : Int} {bx : Nat} {cs : Array Value}
theorem PL.s_turn (a : PL w0 w p p2 c0 c n Q U Q2 U2 er bx cs) (h : SW w w' p c0 c n Q' U' er) : PL w0 w' p p2 c0 c n Q' U' Q2 U2 er bx cs :=
  ⟨h.1, a.r.turns h.2 (fun k e => e.2), a.box.turns h.2 (fun e => by have := a.hb; omega), a.hb, a.hc, a.q.trans (h.2.below a.q.size (fun k hk e => by have := a.hc; omega))⟩
theorem PL.r_turn (a : PL w0 w p p2 c0 c n Q U Q2 U2 er bx cs) (h : RW w w' p2 c n Q' U' er) : PL w0 w' p p2 c0 c n Q U Q' U' er bx cs :=
  ⟨a.s.turns h.2.1 (fun k e => e), h.1, h.2.2 _ _ a.box, a.hb, a.hc, a.q.trans (h.2.1.below a.q.size (fun k hk e => by have := a.hc; have := a.s.1; omega))⟩
theorem PL.drew (a : PL w0 w p p2 c0 c n Q U Q2 U2 er bx cs) : PL w0 w.drew p p2 c0 c n Q U Q2 U2 er bx cs :=
  ⟨a.s.below (Below.refl _ _).drew, a.r.below (Below.refl _ _).drew, a.box, a.hb, a.hc, a.q.drew⟩
theorem pl_join (a : PL w0 w p p2 c0 c n Q U Q2 U2 er bx cs) (X Y : Int) (hX : Fits X) (hY : Fits Y) : Calls Try.prog 20 #[.pointer p, .int .i64 X, .int .i64 Y] w fun e w' => e = .returned (.int .i64 (cJoin n Q er X Y)) ∧ PL w0 w' p p2 c0 c n (qJoin n Q X Y) (U) Q2 U2 er bx cs :=
  (s_join a.s X Y hX hY).mono fun e w' ⟨h1, h2⟩ => ⟨h1, a.s_turn h2⟩
theorem pl_rjoin (a : PL w0 w p p2 c0 c n Q2 U2 Q U er bx cs) (X Y : Int) (hX : Fits X) (hY : Fits Y) : Calls Try.prog 33 #[.pointer p2, .int .i64 X, .int .i64 Y] w fun e w' => e = .returned (.int .i64 (cJoin n Q er X Y)) ∧ PL w0 w' p p2 c0 c n Q2 U2 (qJoin n Q X Y) (U) er bx cs :=
  (r_join a.r X Y).mono fun e w' ⟨h1, h2⟩ => ⟨h1, a.r_turn h2⟩
theorem pl_split (a : PL w0 w p p2 c0 c n Q U Q2 U2 er bx cs) (X : Int) (hX : Fits X) : Calls Try.prog 16 #[.pointer p, .int .i64 X] w fun e w' => e = .returned (.int .i64 (cOne n er X)) ∧ PL w0 w' p p2 c0 c n (qSplit n Q X) (U) Q2 U2 er bx cs :=
  (s_split a.s X hX).mono fun e w' ⟨h1, h2⟩ => ⟨h1, a.s_turn h2⟩
theorem pl_rsplit (a : PL w0 w p p2 c0 c n Q2 U2 Q U er bx cs) (X : Int) (hX : Fits X) : Calls Try.prog 34 #[.pointer p2, .int .i64 X] w fun e w' => e = .returned (.int .i64 (cOne n er X)) ∧ PL w0 w' p p2 c0 c n Q2 U2 (qSplit n Q X) (U) er bx cs :=
  (r_split a.r X).mono fun e w' ⟨h1, h2⟩ => ⟨h1, a.r_turn h2⟩
theorem pl_rev (a : PL w0 w p p2 c0 c n Q U Q2 U2 er bx cs) (X : Int) (hX : Fits X) : Calls Try.prog 26 #[.pointer p, .int .i64 X] w fun e w' => e = .returned (.int .i64 (cOne n er X)) ∧ PL w0 w' p p2 c0 c n (qRev n Q X) (U) Q2 U2 er bx cs :=
  (s_rev a.s X hX).mono fun e w' ⟨h1, h2⟩ => ⟨h1, a.s_turn h2⟩
theorem pl_rrev (a : PL w0 w p p2 c0 c n Q2 U2 Q U er bx cs) (X : Int) (hX : Fits X) : Calls Try.prog 35 #[.pointer p2, .int .i64 X] w fun e w' => e = .returned (.int .i64 (cOne n er X)) ∧ PL w0 w' p p2 c0 c n Q2 U2 (qRev n Q X) (U) er bx cs :=
  (r_rev a.r X).mono fun e w' ⟨h1, h2⟩ => ⟨h1, a.r_turn h2⟩
theorem pl_set (a : PL w0 w p p2 c0 c n Q U Q2 U2 er bx cs) (X V : Int) (hX : Fits X) (hV : Fits V) : Calls Try.prog 22 #[.pointer p, .int .i64 X, .int .i64 V] w fun e w' => e = .returned (.int .i64 (cOne n er X)) ∧ PL w0 w' p p2 c0 c n (Q) (uSet n U X V) Q2 U2 er bx cs :=
  (s_set a.s X V hX hV).mono fun e w' ⟨h1, h2⟩ => ⟨h1, a.s_turn h2⟩
theorem pl_rset (a : PL w0 w p p2 c0 c n Q2 U2 Q U er bx cs) (X V : Int) (hX : Fits X) (hV : Fits V) : Calls Try.prog 36 #[.pointer p2, .int .i64 X, .int .i64 V] w fun e w' => e = .returned (.int .i64 (cOne n er X)) ∧ PL w0 w' p p2 c0 c n Q2 U2 (Q) (uSet n U X V) er bx cs :=
  (r_set a.r X V hV).mono fun e w' ⟨h1, h2⟩ => ⟨h1, a.r_turn h2⟩
end
/-- one step of the law's -/
theorem step_facts {w : World} {A : Option Addr} {n c : Nat} {z : Nat → Nat → Int} (ha : ArgS [.i64, .i64, .i64, .i64, .i64] w A n c z) {i : Nat} (hi : i < n) :
    ∃ g o : Nat, A = some ⟨g, o, none⟩ ∧ g < w.heap.size ∧ ∃ D X Y V K : Int, w.cell? ⟨g, o + i * 5, none⟩ = some (.int .i64 D) ∧ w.cell? ⟨g, o + i * 5 + 1, none⟩ = some (.int .i64 X) ∧ w.cell? ⟨g, o + i * 5 + 2, none⟩ = some (.int .i64 Y) ∧ w.cell? ⟨g, o + i * 5 + 3, none⟩ = some (.int .i64 V) ∧ w.cell? ⟨g, o + i * 5 + 4, none⟩ = some (.int .i64 K) ∧
      Fits X ∧ Fits Y ∧ Fits V := by
  obtain ⟨g, o, rfl, hg, hc⟩ := ha.2.2.1 (by omega)
  refine ⟨g, o, rfl, hg, z i 0, z i 1, z i 2, z i 3, z i 4, hc i hi 0 _ rfl, ?_, ?_, ?_, ?_, wf_i64 (ha.2.2.2 i hi 1 _ rfl), wf_i64 (ha.2.2.2 i hi 2 _ rfl), wf_i64 (ha.2.2.2 i hi 3 _ rfl)⟩
  · rw [Nat.add_assoc]; exact hc i hi 1 _ rfl
  · rw [Nat.add_assoc]; exact hc i hi 2 _ rfl
  · rw [Nat.add_assoc]; exact hc i hi 3 _ rfl
  · rw [Nat.add_assoc]; exact hc i hi 4 _ rfl
/-- both sides' New -/
theorem both_new (N : Int) (hN : N ≤ 60) (w : World) : Calls Try.prog 21 #[.int .i64 N] w fun e w1 => ∃ p cd, e = .returned (.tuple #[.pointer p, .int .i64 cd]) ∧ Below w.heap.size w w1 ∧
    Calls Try.prog 31 #[.int .i64 N] w1 fun e w2 => ∃ p2 c0 c n Q U er, e = .returned (.tuple #[.pointer p2, .int .i64 cd]) ∧ p.isNone = p2.isNone ∧ SS w2 p c0 c n Q U er ∧ RS w2 p2 c n Q U er ∧ n ≤ 1000 ∧ w.heap.size ≤ c0 ∧ Below w.heap.size w w2 := by
  by_cases h : N < 0
  · refine (new_bad N w (.inl h)).mono ?_
    rintro e w1 ⟨rfl, rfl⟩
    refine ⟨_, _, rfl, Below.refl _ _, (rnew_bad N w (.inl h)).mono ?_⟩
    rintro e w1 ⟨rfl, rfl⟩
    exact ⟨none, w.heap.size, w.heap.size, 0, _, _, _, rfl, rfl, (nil_ss w _ (Nat.le_refl _)).1, (nil_ss w _ (Nat.le_refl _)).2, by omega, Nat.le_refl _, Below.refl _ _⟩
  · obtain ⟨n, rfl⟩ : ∃ n : Nat, N = n := ⟨N.toNat, by omega⟩
    refine (new_ok n w (by omega)).mono ?_
    rintro e w1 ⟨b, s, rfl, h, hb, hs, q⟩
    refine ⟨_, _, rfl, q, (rnew_ok n w1 (by omega)).mono ?_⟩
    rintro e w2 ⟨r, rfl, hr, hR, v⟩
    obtain ⟨hS, hR, hn⟩ := made_ss h hb hs hR q v
    exact ⟨_, _, _, n, _, _, 3, rfl, rfl, hS, hR, hn, Nat.le_refl _, below_end q q.size v⟩
set_option maxRecDepth 100000 in
set_option maxHeartbeats 2500000 in
theorem plays_low (N : Int) (m c9 : Nat) (A : Option Addr) (z : Nat → Nat → Int) (w : World) (hN : N ≤ 60) (hm : m ≤ 150) (ha : ArgS [.i64, .i64, .i64, .i64, .i64] w A m c9 z) :
    Calls Try.prog 10 #[.int .i64 N, .slice A m c9] w fun e w' => e = .returned (.bool true) ∧ Below w.heap.size w w' := by
  have hn63 := ha.2.1
  have hnc := ha.1
  have n1 : ¬ 60 < N := by omega
  have n2 : ¬ 150 < (m : Int) := by omega
  have x0 := both_new N hN w
  go_enter Try.func10, Try.ntmps10
  go_wp2_with fail
  refine x0.mono ?_
  rintro e w1 ⟨p, cd, rfl, q1, x1⟩
  clear x0
  go_wp2_with fail
  refine x1.mono ?_
  rintro e w2 ⟨p2, c0, c, n, Q, U, er, rfl, hpp, hS, hR, hn, hc0, q2⟩
  have hpb : (p.isNone == p2.isNone) = true := by rw [hpp]; simp
  clear x1 hpp
  go_wp2_with fail
  go_loopw [5, 7, 9, 10, 11, 12] (fun v5 v7 vk _ _ _ wr => ∃ (k : Nat) (p p2 : Option Addr) (c0 c n : Nat) (Q : Nat → List Nat) (U : Nat → Int) (er : Int), v5 = .pointer p ∧ v7 = .pointer p2 ∧ vk = .int .i64 k ∧ k ≤ m ∧ SS wr p c0 c n Q U er ∧ RS wr p2 c n Q U er ∧ n ≤ 1000 ∧ w.heap.size ≤ c0 ∧ Below w.heap.size w wr) (fun _ _ vk _ _ _ _ => 200 - (intOf vk).toNat)
  case atStart => exact ⟨0, p, p2, c0, c, n, Q, U, er, rfl, rfl, rfl, Nat.zero_le _, hS, hR, hn, hc0, q2⟩
  case round =>
    clear hS hR hc0 q2 hpb q1
    obtain ⟨k, p, p2, c0, c, n, Q, U, er, rfl, rfl, rfl, hk, hS, hR, hn, hc0, q⟩ := hrel
    by_cases hlt : k < m
    · obtain ⟨g, o, rfl, hg, D, X, Y, V, K, f0, f1, f2, f3, f4, fX, fY, fV⟩ := step_facts ha hlt
      have f0 := (q.cell (p := ⟨g, _, none⟩) hg).trans f0
      have f1 := (q.cell (p := ⟨g, _, none⟩) hg).trans f1
      have f2 := (q.cell (p := ⟨g, _, none⟩) hg).trans f2
      have f3 := (q.cell (p := ⟨g, _, none⟩) hg).trans f3
      have f4 := (q.cell (p := ⟨g, _, none⟩) hg).trans f4
      have hkm : (k : Int) < (m : Int) := by omega
      go_upto_region 11 with fail
      have b0 := below_new1 wr (.cells #[.int .i64 D, .int .i64 X, .int .i64 Y, .int .i64 V, .int .i64 K] 55)
      have a0' : PL w (wr.alloc (.cells #[.int .i64 D, .int .i64 X, .int .i64 Y, .int .i64 V, .int .i64 K] 55)) p p2 c0 c n Q U Q U er wr.heap.size #[.int .i64 D, .int .i64 X, .int .i64 Y, .int .i64 V, .int .i64 K] :=
        ⟨hS.below b0, hR.below b0, Blk.new wr 55 _, hR.1, hc0, below_end q q.size b0⟩
      clear f0 f1 f2 f3 f4 hS hR b0 q
      generalize wr.alloc (.cells #[.int .i64 D, .int .i64 X, .int .i64 Y, .int .i64 V, .int .i64 K] 55) = W1 at *
      have d0' := a0'.box.cell 0
      simp at d0'
      by_cases hD0 : D = 0
      · subst hD0
        obtain ⟨cd2, hcd2⟩ : ∃ i, cJoin n Q er X Y = i := ⟨_, rfl⟩
        obtain ⟨QQ, hQQ⟩ : ∃ i, qJoin n Q X Y = i := ⟨_, rfl⟩
        have H2 := Lib.hid hcd2
        have H3 := Lib.hid hQQ
        clear hcd2 hQQ
        go_upto_region 14 with fail
        have z0 := a0'.drew
        have c1z := z0.box.cell 1
        have c2z := z0.box.cell 2
        simp at c1z c2z
        have x1 := pl_join z0 X Y fX fY
        rw [H2.out, H3.out] at x1
        go_region_held3 (fun w' => w'.cell? ⟨wr.heap.size, 1, none⟩ = some (.int .i64 X) ∧ w'.cell? ⟨wr.heap.size, 2, none⟩ = some (.int .i64 Y)) (exact ⟨by assumption, by assumption⟩) (first
          | (go_at_call 33; (with_reducible refine x2.mono ?_); rintro e w3 ⟨rfl, z2⟩; have c1y := z2.box.cell 1; have c2y := z2.box.cell 2; simp at c1y c2y)
          | (go_at_call 20; (with_reducible refine x1.mono ?_); rintro e w2 ⟨rfl, z1⟩; have c1x := z1.box.cell 1; have c2x := z1.box.cell 2; simp at c1x c2x; have x2 := pl_rjoin z1 X Y fX fY; rw [H2.out, H3.out] at x2))
        all_goals
          have hS3 := z2.s
          have hR3 := z2.r
          have k3 := z2.box
          have q3 := z2.q
          have hc3 := z2.hc
          clear x1 x2 z0 z1 z2 a0' c1z c2z c1x c2x c1y c2y
          have e0 := k3.cell 0
          have e1 := k3.cell 1
          have e2 := k3.cell 2
          have e3 := k3.cell 3
          have e4 := k3.cell 4
          simp at e0 e1 e2 e3 e4
          have x4 := agree_ok w3 p p2 c0 c n QQ U er 0 X Y V K hS3 hR3 hn fX fY
          clear k3
          go_wp2_with fail
          refine x4.mono ?_
          rintro e w4 ⟨rfl, hS4, hR4, T4⟩
          have q4 : Below w.heap.size w w4 := q3.trans (T4.below q3.size (fun k hk hS => by omega))
          clear x4 e0 e1 e2 e3 e4 hS3 hR3 q3 T4
          go_wp2_with fail
          go_roundw
          case rel => exact ⟨k + 1, p, p2, c0, c, n, QQ, U, er, rfl, rfl, by simp, by omega, hS4, hR4, hn, hc3, q4⟩
          case measure => simp [intOf]; omega
      have g0 : (D == 0) = false := by rw [beq_eq_false_iff_ne]; exact hD0
      by_cases hD1 : D = 1
      · subst hD1
        obtain ⟨cd2, hcd2⟩ : ∃ i, cOne n er X = i := ⟨_, rfl⟩
        obtain ⟨QQ, hQQ⟩ : ∃ i, qSplit n Q X = i := ⟨_, rfl⟩
        have H2 := Lib.hid hcd2
        have H3 := Lib.hid hQQ
        clear hcd2 hQQ
        go_upto_region 16 with fail
        have z0 := a0'.drew
        have c1z := z0.box.cell 1
        simp at c1z
        have x1 := pl_split z0 X fX
        rw [H2.out, H3.out] at x1
        go_region_held3 (fun w' => w'.cell? ⟨wr.heap.size, 1, none⟩ = some (.int .i64 X)) (assumption) (first
          | (go_at_call 34; (with_reducible refine x2.mono ?_); rintro e w3 ⟨rfl, z2⟩; have c1y := z2.box.cell 1; simp at c1y)
          | (go_at_call 16; (with_reducible refine x1.mono ?_); rintro e w2 ⟨rfl, z1⟩; have c1x := z1.box.cell 1; simp at c1x; have x2 := pl_rsplit z1 X fX; rw [H2.out, H3.out] at x2))
        all_goals
          have hS3 := z2.s
          have hR3 := z2.r
          have k3 := z2.box
          have q3 := z2.q
          have hc3 := z2.hc
          clear x1 x2 z0 z1 z2 a0' c1z c1x c1y
          have e0 := k3.cell 0
          have e1 := k3.cell 1
          have e2 := k3.cell 2
          have e3 := k3.cell 3
          have e4 := k3.cell 4
          simp at e0 e1 e2 e3 e4
          have x4 := agree_ok w3 p p2 c0 c n QQ U er 1 X Y V K hS3 hR3 hn fX fY
          clear k3
          go_wp2_with fail
          refine x4.mono ?_
          rintro e w4 ⟨rfl, hS4, hR4, T4⟩
          have q4 : Below w.heap.size w w4 := q3.trans (T4.below q3.size (fun k hk hS => by omega))
          clear x4 e0 e1 e2 e3 e4 hS3 hR3 q3 T4
          go_wp2_with fail
          go_roundw
          case rel => exact ⟨k + 1, p, p2, c0, c, n, QQ, U, er, rfl, rfl, by simp, by omega, hS4, hR4, hn, hc3, q4⟩
          case measure => simp [intOf]; omega
      have g1 : (D == 1) = false := by rw [beq_eq_false_iff_ne]; exact hD1
      by_cases hD2 : D = 2
      · subst hD2
        obtain ⟨cd2, hcd2⟩ : ∃ i, cOne n er X = i := ⟨_, rfl⟩
        obtain ⟨QQ, hQQ⟩ : ∃ i, qRev n Q X = i := ⟨_, rfl⟩
        have H2 := Lib.hid hcd2
        have H3 := Lib.hid hQQ
        clear hcd2 hQQ
        go_upto_region 18 with fail
        have z0 := a0'.drew
        have c1z := z0.box.cell 1
        simp at c1z
        have x1 := pl_rev z0 X fX
        rw [H2.out, H3.out] at x1
        go_region_held3 (fun w' => w'.cell? ⟨wr.heap.size, 1, none⟩ = some (.int .i64 X)) (assumption) (first
          | (go_at_call 35; (with_reducible refine x2.mono ?_); rintro e w3 ⟨rfl, z2⟩; have c1y := z2.box.cell 1; simp at c1y)
          | (go_at_call 26; (with_reducible refine x1.mono ?_); rintro e w2 ⟨rfl, z1⟩; have c1x := z1.box.cell 1; simp at c1x; have x2 := pl_rrev z1 X fX; rw [H2.out, H3.out] at x2))
        all_goals
          have hS3 := z2.s
          have hR3 := z2.r
          have k3 := z2.box
          have q3 := z2.q
          have hc3 := z2.hc
          clear x1 x2 z0 z1 z2 a0' c1z c1x c1y
          have e0 := k3.cell 0
          have e1 := k3.cell 1
          have e2 := k3.cell 2
          have e3 := k3.cell 3
          have e4 := k3.cell 4
          simp at e0 e1 e2 e3 e4
          have x4 := agree_ok w3 p p2 c0 c n QQ U er 2 X Y V K hS3 hR3 hn fX fY
          clear k3
          go_wp2_with fail
          refine x4.mono ?_
          rintro e w4 ⟨rfl, hS4, hR4, T4⟩
          have q4 : Below w.heap.size w w4 := q3.trans (T4.below q3.size (fun k hk hS => by omega))
          clear x4 e0 e1 e2 e3 e4 hS3 hR3 q3 T4
          go_wp2_with fail
          go_roundw
          case rel => exact ⟨k + 1, p, p2, c0, c, n, QQ, U, er, rfl, rfl, by simp, by omega, hS4, hR4, hn, hc3, q4⟩
          case measure => simp [intOf]; omega
      have g2 : (D == 2) = false := by rw [beq_eq_false_iff_ne]; exact hD2
      by_cases hD3 : D = 3
      · subst hD3
        obtain ⟨cd2, hcd2⟩ : ∃ i, cOne n er X = i := ⟨_, rfl⟩
        obtain ⟨UU, hUU⟩ : ∃ i, uSet n U X V = i := ⟨_, rfl⟩
        have H2 := Lib.hid hcd2
        have H4 := Lib.hid hUU
        clear hcd2 hUU
        go_upto_region 20 with fail
        have z0 := a0'.drew
        have c1z := z0.box.cell 1
        have c3z := z0.box.cell 3
        simp at c1z c3z
        have x1 := pl_set z0 X V fX fV
        rw [H2.out, H4.out] at x1
        go_region_held3 (fun w' => w'.cell? ⟨wr.heap.size, 1, none⟩ = some (.int .i64 X) ∧ w'.cell? ⟨wr.heap.size, 3, none⟩ = some (.int .i64 V)) (exact ⟨by assumption, by assumption⟩) (first
          | (go_at_call 36; (with_reducible refine x2.mono ?_); rintro e w3 ⟨rfl, z2⟩; have c1y := z2.box.cell 1; have c3y := z2.box.cell 3; simp at c1y c3y)
          | (go_at_call 22; (with_reducible refine x1.mono ?_); rintro e w2 ⟨rfl, z1⟩; have c1x := z1.box.cell 1; have c3x := z1.box.cell 3; simp at c1x c3x; have x2 := pl_rset z1 X V fX fV; rw [H2.out, H4.out] at x2))
        all_goals
          have hS3 := z2.s
          have hR3 := z2.r
          have k3 := z2.box
          have q3 := z2.q
          have hc3 := z2.hc
          clear x1 x2 z0 z1 z2 a0' c1z c3z c1x c3x c1y c3y
          have e0 := k3.cell 0
          have e1 := k3.cell 1
          have e2 := k3.cell 2
          have e3 := k3.cell 3
          have e4 := k3.cell 4
          simp at e0 e1 e2 e3 e4
          have x4 := agree_ok w3 p p2 c0 c n Q UU er 3 X Y V K hS3 hR3 hn fX fY
          clear k3
          go_wp2_with fail
          refine x4.mono ?_
          rintro e w4 ⟨rfl, hS4, hR4, T4⟩
          have q4 : Below w.heap.size w w4 := q3.trans (T4.below q3.size (fun k hk hS => by omega))
          clear x4 e0 e1 e2 e3 e4 hS3 hR3 q3 T4
          go_wp2_with fail
          go_roundw
          case rel => exact ⟨k + 1, p, p2, c0, c, n, Q, UU, er, rfl, rfl, by simp, by omega, hS4, hR4, hn, hc3, q4⟩
          case measure => simp [intOf]; omega
      have g3 : (D == 3) = false := by rw [beq_eq_false_iff_ne]; exact hD3
      by_cases hD4 : D = 4
      · subst hD4
        have x1 := s_copy a0'.s
        have hz1 := a0'.q.size
        go_wp2_with fail
        refine x1.mono ?_
        rintro e w2 ⟨p3, rfl, hS3, b1⟩
        have x2 := r_copy (a0'.r.below b1)
        have q3 := below_end a0'.q hz1 b1
        have k3 := a0'.box.below b1 a0'.box.lt
        clear x1
        go_wp2_with fail
        refine x2.mono ?_
        rintro e w3 ⟨p4, rfl, hR3, b2⟩
        have q3 := below_end q3 q3.size b2
        have hS3 := hS3.below b2
        have k3 := k3.below b2 k3.lt
        have hc3 : w.heap.size ≤ W1.heap.size := hz1
        have hz2 := b1.size
        clear x2 a0' b1 b2
        have e0 := k3.cell 0
        have e1 := k3.cell 1
        have e2 := k3.cell 2
        have e3 := k3.cell 3
        have e4 := k3.cell 4
        simp at e0 e1 e2 e3 e4
        have x4 := agree_ok w3 p3 p4 W1.heap.size w2.heap.size n Q U er 4 X Y V K hS3 hR3 hn fX fY
        clear k3
        go_wp2_with fail
        refine x4.mono ?_
        rintro e w4 ⟨rfl, hS4, hR4, T4⟩
        have q4 : Below w.heap.size w w4 := q3.trans (T4.below q3.size (fun k hk hS => by omega))
        clear x4 e0 e1 e2 e3 e4 hS3 hR3 q3 T4
        go_wp2_with fail
        go_roundw
        case rel => exact ⟨k + 1, p3, p4, W1.heap.size, w2.heap.size, n, Q, U, er, rfl, rfl, by simp, by omega, hS4, hR4, hn, hc3, q4⟩
        case measure => simp [intOf]; omega
      have g4 : (D == 4) = false := by rw [beq_eq_false_iff_ne]; exact hD4
      have hS3 := a0'.s
      have hR3 := a0'.r
      have k3 := a0'.box
      have q3 := a0'.q
      have hc3 := a0'.hc
      clear a0'
      generalize hw3 : W1 = w3 at *
      clear hw3
      have e0 := k3.cell 0
      have e1 := k3.cell 1
      have e2 := k3.cell 2
      have e3 := k3.cell 3
      have e4 := k3.cell 4
      simp at e0 e1 e2 e3 e4
      have x4 := agree_ok w3 p p2 c0 c n Q U er D X Y V K hS3 hR3 hn fX fY
      clear k3
      go_wp2_with fail
      refine x4.mono ?_
      rintro e w4 ⟨rfl, hS4, hR4, T4⟩
      have q4 : Below w.heap.size w w4 := q3.trans (T4.below q3.size (fun k hk hS => by omega))
      clear x4 e0 e1 e2 e3 e4 hS3 hR3 q3 T4
      go_wp2_with fail
      go_roundw
      case rel => exact ⟨k + 1, p, p2, c0, c, n, Q, U, er, rfl, rfl, by simp, by omega, hS4, hR4, hn, hc3, q4⟩
      case measure => simp [intOf]; omega
    · have hkm : ¬ (k : Int) < (m : Int) := by omega
      have x3 := works_ok wr
      clear hS hR
      go_wp2_with fail
      refine x3.mono ?_
      rintro e w4 ⟨rfl, v4⟩
      have q4 := below_end q q.size v4
      go_wp2_with fail
      go_ret
      exact ⟨rfl, q4⟩
theorem plays_walk (N : Int) (m c9 : Nat) (A : Option Addr) (z : Nat → Nat → Int) (w : World) (ha : ArgS [.i64, .i64, .i64, .i64, .i64] w A m c9 z) :
    Calls Try.prog 10 #[.int .i64 N, .slice A m c9] w fun e w' => e = .returned (.bool true) ∧ Below w.heap.size w w' := by
  by_cases h : N ≤ 60 ∧ m ≤ 150
  · exact plays_low N m c9 A z w h.1 h.2 ha
  · have hn63 := ha.2.1
    have hnc := ha.1
    have x0 := works_ok w
    by_cases h1 : N ≤ 60
    · have n1 : ¬ 60 < N := by omega
      have n2 : 150 < (m : Int) := by omega
      go_enter Try.func10, Try.ntmps10
      go_wp2_with fail
      refine x0.mono ?_
      rintro e w1 ⟨rfl, q⟩
      go_wp2_with fail
      go_ret
      exact ⟨rfl, q⟩
    · have n1 : 60 < N := by omega
      go_enter Try.func10, Try.ntmps10
      go_wp2_with fail
      refine x0.mono ?_
      rintro e w1 ⟨rfl, q⟩
      go_wp2_with fail
      go_ret
      exact ⟨rfl, q⟩
end Go.Proofs.Ytgichkjomhnehaa
