/-
  math/bits.Div64 where the high half is above 0.
-/
import Derived.Test.YtipniooflaiikaaKt
set_option linter.unusedVariables false
set_option linter.unusedSimpArgs false
namespace Go.Proofs.Ytipniooflaiikaa
open Go.RowKit Go.Shelf

/-- a round of the guess: it is not too small, and it and its rest are the dividend -/
structure Guess (un32 un1 vn1 vn0 V q r : Nat) : Prop where
  sum : q * vn1 + r = un32
  ge : (un32 * 4294967296 + un1) / V ≤ q
theorem Guess.stop {un32 un1 vn1 vn0 V q r : Nat} (g : Guess un32 un1 vn1 vn0 V q r) (hV : V = vn1 * 4294967296 + vn0) (h0 : 0 < V) (h : q * vn0 ≤ r * 4294967296 + un1) : q = (un32 * 4294967296 + un1) / V := by
  refine kn_eq h0 g.ge ?_
  rw [hV]; exact kn_le g.sum h
theorem Guess.down {un32 un1 vn1 vn0 V q r : Nat} (g : Guess un32 un1 vn1 vn0 V q r) (hV : V = vn1 * 4294967296 + vn0) (h0 : 0 < V) (hq : 0 < q) (h : 4294967296 ≤ q ∧ un32 < V ∧ un1 < 4294967296 ∨ r * 4294967296 + un1 < q * vn0) : Guess un32 un1 vn1 vn0 V (q - 1) (r + vn1) := by
  refine ⟨?_, ?_⟩
  · have e : q = q - 1 + 1 := by omega
    have := g.sum
    rw [e, Nat.add_mul, Nat.one_mul] at this
    omega
  · rcases h with ⟨h1, h2, h3⟩ | h
    · have := kn_digit h2 h3
      omega
    · refine kn_down h0 ?_
      have := kn_gt g.sum h
      rwa [← hV] at this
theorem Guess.last {un32 un1 vn1 vn0 V q r : Nat} (g : Guess un32 un1 vn1 vn0 V q r) (hV : V = vn1 * 4294967296 + vn0) (h0 : 0 < V) (l0 : vn0 < 4294967296) (hq : q ≤ 4294967296) (hr : 4294967296 ≤ r) : q = (un32 * 4294967296 + un1) / V := by
  refine g.stop hV h0 ?_
  have := Nat.mul_le_mul hq (show vn0 ≤ 4294967295 by omega)
  omega
theorem guess_first {un32 un1 vn1 vn0 V : Nat} (hV : V = vn1 * 4294967296 + vn0) (gv : 9223372036854775808 ≤ V) (l0 : vn0 < 4294967296) (l1 : un1 < 4294967296) (hu : un32 < V) :
    Guess un32 un1 vn1 vn0 V (un32 / vn1) (un32 % vn1) ∧ un32 / vn1 ≤ 4294967297 ∧ un32 % vn1 < vn1 := by
  have h1 : 2147483648 ≤ vn1 := by omega
  refine ⟨⟨by rw [Nat.mul_comm]; exact Nat.div_add_mod _ _, by rw [hV]; exact kn_first (by omega) l1⟩, ?_, Nat.mod_lt _ (by omega)⟩
  have := (Nat.div_lt_iff_lt_mul (show 0 < vn1 by omega) (x := un32) (y := 4294967298)).2 (by omega)
  omega

/-- the second digit -/
structure Second (un32 un1 un10 un0 V vn1 vn0 Q1 R1 qb rb Q0 R0 : Nat) : Prop where
  r1 : (un32 * 4294967296 + un1) % V = R1
  r1l : R1 < V
  e21 : IntKind.u64.wrap (IntKind.u64.wrap (IntKind.u64.wrap ((un32 : Int) * 4294967296) + (un1 : Int)) - IntKind.u64.wrap ((Q1 : Int) * (V : Int))) = (R1 : Int)
  gs : Guess R1 un0 vn1 vn0 V qb rb
  qb2 : qb ≤ 4294967297
  rb2 : rb < vn1
  qd : (R1 : Int) / (vn1 : Int) = (qb : Int)
  qn1 : (R1 : Int) - (qb : Int) * (vn1 : Int) = (rb : Int)
  qn2 : (qb : Int) * (vn1 : Int) ≤ (R1 : Int)
  q0 : (R1 * 4294967296 + un0) / V = Q0
  q0b : Q0 < 4294967296
  r0l : R0 < V
  e20 : IntKind.u64.wrap (IntKind.u64.wrap (IntKind.u64.wrap ((R1 : Int) * 4294967296) + (un0 : Int)) - IntKind.u64.wrap ((Q0 : Int) * (V : Int))) = (R0 : Int)
  quo : (un32 * 18446744073709551616 + un10) / V = Q1 * 4294967296 + Q0
  rem : (un32 * 18446744073709551616 + un10) % V = R0
set_option maxRecDepth 100000 in
theorem seconds_of {un32 un1 un10 un0 V vn1 vn0 Q1 : Nat} (ev : V = vn1 * 4294967296 + vn0) (eu : un10 = un1 * 4294967296 + un0) (gv : 9223372036854775808 ≤ V) (lv : V < 18446744073709551616) (lv0 : vn0 < 4294967296) (lu0 : un0 < 4294967296) (ltu : un32 < V) (lu1 : un1 < 4294967296) (hQ : (un32 * 4294967296 + un1) / V = Q1) :
    ∃ R1 qb rb Q0 R0 : Nat, Second un32 un1 un10 un0 V vn1 vn0 Q1 R1 qb rb Q0 R0 := by
  have hV : 0 < V := by omega
  have e1 := Nat.div_add_mod (un32 * 4294967296 + un1) V
  have r1l := Nat.mod_lt (un32 * 4294967296 + un1) hV
  rw [hQ] at e1
  obtain ⟨R1, hR1⟩ : ∃ R1, (un32 * 4294967296 + un1) % V = R1 := ⟨_, rfl⟩
  rw [hR1] at e1 r1l
  have g := guess_first (un1 := un0) ev gv lv0 lu0 r1l
  have e0 := Nat.div_add_mod (R1 * 4294967296 + un0) V
  have r0l := Nat.mod_lt (R1 * 4294967296 + un0) hV
  have hd := kn_digit (v := V) r1l lu0
  have ht := kt_two (u32 := un32) (u1 := un1) (u0 := un0) hV e1.symm e0.symm r0l
  have hs := g.1.sum
  have hs' : ((R1 / vn1 : Nat) : Int) * (vn1 : Int) + ((R1 % vn1 : Nat) : Int) = (R1 : Int) := by exact_mod_cast hs
  refine ⟨R1, R1 / vn1, R1 % vn1, _, _, ⟨hR1, r1l, kt_rest e1.symm (by omega) _ rfl, g.1, g.2.1, g.2.2, (Int.natCast_ediv _ _).symm, by omega, by omega, rfl, hd, r0l, kt_rest e0.symm (by omega) _ rfl, by rw [eu]; exact ht.1, by rw [eu]; exact ht.2⟩⟩

set_option maxRecDepth 1000000 in
set_option maxHeartbeats 4000000 in
theorem div64_big (u l y s : Nat) (hu0 : 0 < u) (hu : u < y) (hl : l < 18446744073709551616) (hy1 : y < 18446744073709551616) (hs : (64 - (Lib.bitLen y : Nat) : Int) = s) (w : World) :
    Calls Try.prog 55 #[.int .u64 u, .int .u64 l, .int .u64 y] w fun e w' => e = .returned (.tuple #[.int .u64 (((u * 18446744073709551616 + l) / y : Nat) : Int), .int .u64 (((u * 18446744073709551616 + l) % y : Nat) : Int)]) ∧ w = w' := by
  obtain ⟨V, vn1, vn0, un32, un10, un1, un0, W⟩ := words_of hu hl hy1 hs
  have hb1 := bitLen_pos (y := y) (by omega) hy1
  have hs1 : s < 64 := by omega
  have HW := Lib.hid W
  obtain ⟨h1, h2, h3, h4, h5, h6, h7, ev, lv0, gv, lv, eu, lu1, lu0, ltu, hquo, hrem⟩ := W
  have HQ := Lib.hid hquo
  have HR := Lib.hid hrem
  clear hquo hrem
  obtain ⟨gf, qa2, ra2⟩ := guess_first ev gv lv0 lu1 ltu
  have G1 := Lib.hid gf
  have HEV := Lib.hid ev
  have HEU := Lib.hid eu
  have y2 : y ≠ 0 := by omega
  have y1 : ((y : Int) == 0) = false := by simp; omega
  have u1 : ((u : Int) == 0) = false := by simp; omega
  have u2 : decide ((y : Int) ≤ (u : Int)) = false := by simp; omega
  have ws : IntKind.u64.wrap (s : Int) = (s : Int) := by rw [IntKind.wrap_u64]; omega
  have hy0 : (0 : Int) ≤ (y : Int) := by omega
  have hy3 : (y : Int) ≤ 18446744073709551615 := by omega
  have v1 : 2147483648 ≤ vn1 := by omega
  have v2 : vn1 < 4294967296 := by omega
  have v3 : vn1 ≠ 0 := by omega
  have v4 : (vn1 : Int) ≠ 0 := by omega
  have qd : (un32 : Int) / (vn1 : Int) = ((un32 / vn1 : Nat) : Int) := (Int.natCast_ediv _ _).symm
  have qm : ((un32 / vn1 : Nat) : Int) * (vn1 : Int) + ((un32 % vn1 : Nat) : Int) = (un32 : Int) := by
    have := gf.sum
    exact_mod_cast this
  clear gf ev eu
  generalize un32 / vn1 = qa at *
  generalize un32 % vn1 = ra at *
  have qm0 : 0 ≤ (qa : Int) * (vn1 : Int) := Int.mul_nonneg (by omega) (by omega)
  have qm1 : (un32 : Int) - (qa : Int) * (vn1 : Int) = (ra : Int) := by omega
  have qm2 : (qa : Int) * (vn1 : Int) ≤ (un32 : Int) := by omega
  clear qm
  go_enter Try.func55, Try.ntmps55
  go_upto_block 0 with (go_at_call 58; refine (Try.bits_LeadingZeros64 (y : Int) _ hy0 hy3).mono ?_; rw [show ((64 : Int) - (Lib.bitLen (y : Int).toNat : Int)) = (s : Int) from by rw [Int.toNat_natCast]; exact hs]; rintro e w' ⟨rfl, rfl⟩)
  obtain ⟨Q1, hQ1⟩ : ∃ Q1, (un32 * 4294967296 + un1) / V = Q1 := ⟨_, rfl⟩
  have HQ1 := Lib.hid hQ1
  have q1b : Q1 < 4294967296 := by rw [← hQ1]; exact kn_digit ltu lu1
  clear hQ1
  go_cut [15] (fun vq wx => vq = .int .u64 (Q1 : Int) ∧ wx = w')
  case first =>
    go_wp2_with fail
    clear HW h1 h2 h3 h4 h5 h6 h7 HQ HR HEU hb1 hs1 hs hu0 hl hy1 y2 y1 u1 u2 ws hy0 hy3 qd qm0 qm1 qm2 hu
    go_loop [15, 16] (fun vq vr => ∃ q r : Nat, vq = .int .u64 q ∧ vr = .int .u64 r ∧ Hid (Guess un32 un1 vn1 vn0 V q r) ∧ q ≤ 4294967297 ∧ r < 4294967296) (fun vq _ => (intOf vq).toNat)
    case atStart => exact ⟨qa, ra, rfl, rfl, G1, qa2, by omega⟩
    case round =>
      obtain ⟨q, r, rfl, rfl, g, hq, hr⟩ := hrel
      have p0 : 0 ≤ (q : Int) * (vn0 : Int) := Int.mul_nonneg (by omega) (by omega)
      have p1 : (q : Int) * (vn0 : Int) ≤ 18446744073709551615 := by
        have := Nat.mul_le_mul hq (show vn0 ≤ 4294967295 by omega)
        have e : ((q * vn0 : Nat) : Int) = (q : Int) * (vn0 : Int) := Int.natCast_mul _ _
        rw [← e]; omega
      have pe : (q : Int) * (vn0 : Int) = ((q * vn0 : Nat) : Int) := (Int.natCast_mul _ _).symm
      obtain ⟨qi, eq⟩ : ∃ qi : Int, (q : Int) = qi := ⟨_, rfl⟩
      obtain ⟨ri, er⟩ : ∃ ri : Int, (r : Int) = ri := ⟨_, rfl⟩
      have hqi : qi ≤ 4294967297 := by omega
      have hri : ri < 4294967296 := by omega
      have qi0 : 0 ≤ qi := by omega
      have ri0 : 0 ≤ ri := by omega
      by_cases hA : 4294967296 ≤ q ∨ r * 4294967296 + un1 < q * vn0
      · have q0 : 0 < q := by
          rcases hA with h | h
          · omega
          · rcases Nat.eq_zero_or_pos q with h0 | h0
            · rw [h0, Nat.zero_mul] at h; omega
            · exact h0
        have g2 : Hid (Guess un32 un1 vn1 vn0 V (q - 1) (r + vn1)) := Lib.hid (g.out.down HEV.out (by omega) q0 (by
          rcases hA with h | h
          · exact Or.inl ⟨h, ltu, by omega⟩
          · exact Or.inr h))
        have hT : 4294967296 ≤ qi ∨ qi < 4294967296 ∧ 4294967296 * ri + (un1 : Int) < qi * (vn0 : Int) := by
          rw [← eq, ← er, pe]
          rcases hA with h | h
          · exact Or.inl (by omega)
          · rcases Nat.lt_or_ge q 4294967296 with h1 | h1
            · exact Or.inr ⟨by omega, by clear pe p0 p1; generalize q * vn0 = X at *; omega⟩
            · exact Or.inl (by omega)
        have qi1 : 1 ≤ qi := by omega
        have HE := Lib.hid eq
        have HR := Lib.hid er
        rw [eq] at p0 p1
        clear hA pe g
        by_cases hB : 4294967296 ≤ r + vn1
        · have hlast : q - 1 = Q1 := by rw [← HQ1.out]; exact g2.out.last HEV.out (by omega) lv0 (by omega) hB
          have HL := Lib.hid (show qi - 1 = (Q1 : Int) by omega)
          have hBi : 4294967296 ≤ ri + (vn1 : Int) := by omega
          have hBw : IntKind.u64.wrap (ri + (vn1 : Int)) = ri + (vn1 : Int) := by rw [IntKind.wrap_u64]; omega
          rw [eq, er]
          clear hlast hB eq er hq hr q0 g2
          rcases hT with hT | ⟨hT1, hT2⟩
          all_goals
            go_wp2_with fail
            go_meet
            exact ⟨by rw [← HL.out], rfl⟩
        · have hBi : ri + (vn1 : Int) < 4294967296 := by omega
          have HP := Lib.hid (show qi - 1 = ((q - 1 : Nat) : Int) ∧ ri + (vn1 : Int) = ((r + vn1 : Nat) : Int) ∧ (q - 1 ≤ 4294967297 ∧ r + vn1 < 4294967296) by omega)
          rw [eq, er]
          clear hB eq er hq hr q0
          rcases hT with hT | ⟨hT1, hT2⟩
          all_goals
            go_wp2_with fail
            go_round
            case rel => exact ⟨q - 1, r + vn1, by rw [← HP.out.1], by rw [← HP.out.2.1], g2, HP.out.2.2.1, HP.out.2.2.2⟩
            case measure => simp [intOf]; omega
      · have hM : q * vn0 ≤ r * 4294967296 + un1 := by omega
        have hlast : q = Q1 := by rw [← HQ1.out]; exact g.out.stop HEV.out (by omega) hM
        have hN : qi < 4294967296 := by omega
        have hT : qi * (vn0 : Int) ≤ 4294967296 * ri + (un1 : Int) := by
          rw [← eq, ← er, pe]; clear pe p0 p1 hlast hA; generalize q * vn0 = X at *; omega
        have HL := Lib.hid (show qi = (Q1 : Int) by omega)
        rw [eq] at p0 p1
        rw [eq, er]
        clear hlast hA hM pe eq er hq hr g
        go_wp2_with fail
        go_meet
        exact ⟨by rw [← HL.out], rfl⟩
  case rest =>
    rename_i u15 u16
    obtain ⟨rfl, rfl⟩ := hcut
    obtain ⟨R1, qb, rb, Q0, R0, S⟩ := seconds_of HEV.out HEU.out gv lv lv0 lu0 ltu lu1 HQ1.out
    have E21 := S.r1
    have e21 := S.e21
    have r1l := S.r1l
    have G2 := Lib.hid S.gs
    have qb2 := S.qb2
    have rb2 := S.rb2
    have qd' := S.qd
    have qn0 : 0 ≤ (qb : Int) * (vn1 : Int) := Int.mul_nonneg (by omega) (by omega)
    have qn1 := S.qn1
    have qn2 := S.qn2
    have HQ0 := Lib.hid S.q0
    have q0b := S.q0b
    have r0l := S.r0l
    have e20 := S.e20
    have HF : Hid ((u * 18446744073709551616 + l) / y = Q1 * 4294967296 + Q0 ∧ (u * 18446744073709551616 + l) % y = R0 / 2 ^ s) := Lib.hid ⟨by rw [← HQ.out]; exact S.quo, by rw [← HR.out, S.rem]⟩
    clear S E21
    clear HQ HR HW HQ1 HEU h1 h2 h3 h4 h5 h6 h7 qd qm0 qm1 qm2 G1 ltu hu hu0 hy0 hy3 hs hb1 qa2 ra2 y1 y2 u1 u2 hl hy1
    go_upto_block 2 with fail
    go_cut [18] (fun vq wx => vq = .int .u64 (Q0 : Int) ∧ wx = wc)
    case first =>
      go_wp2_with fail
      go_loop [16, 18] (fun vr vq => ∃ q r : Nat, vq = .int .u64 q ∧ vr = .int .u64 r ∧ Hid (Guess R1 un0 vn1 vn0 V q r) ∧ q ≤ 4294967297 ∧ r < 4294967296) (fun _ vq => (intOf vq).toNat)
      case atStart => exact ⟨qb, rb, rfl, rfl, G2, qb2, by omega⟩
      case round =>
        obtain ⟨q, r, rfl, rfl, g, hq, hr⟩ := hrel
        have p0 : 0 ≤ (q : Int) * (vn0 : Int) := Int.mul_nonneg (by omega) (by omega)
        have p1 : (q : Int) * (vn0 : Int) ≤ 18446744073709551615 := by
          have := Nat.mul_le_mul hq (show vn0 ≤ 4294967295 by omega)
          have e : ((q * vn0 : Nat) : Int) = (q : Int) * (vn0 : Int) := Int.natCast_mul _ _
          rw [← e]; omega
        have pe : (q : Int) * (vn0 : Int) = ((q * vn0 : Nat) : Int) := (Int.natCast_mul _ _).symm
        obtain ⟨qi, eq⟩ : ∃ qi : Int, (q : Int) = qi := ⟨_, rfl⟩
        obtain ⟨ri, er⟩ : ∃ ri : Int, (r : Int) = ri := ⟨_, rfl⟩
        have hqi : qi ≤ 4294967297 := by omega
        have hri : ri < 4294967296 := by omega
        have qi0 : 0 ≤ qi := by omega
        have ri0 : 0 ≤ ri := by omega
        by_cases hA : 4294967296 ≤ q ∨ r * 4294967296 + un0 < q * vn0
        · have q0 : 0 < q := by
            rcases hA with h | h
            · omega
            · rcases Nat.eq_zero_or_pos q with h0 | h0
              · rw [h0, Nat.zero_mul] at h; omega
              · exact h0
          have g2 : Hid (Guess R1 un0 vn1 vn0 V (q - 1) (r + vn1)) := Lib.hid (g.out.down HEV.out (by omega) q0 (by
            rcases hA with h | h
            · exact Or.inl ⟨h, r1l, by omega⟩
            · exact Or.inr h))
          have hT : 4294967296 ≤ qi ∨ qi < 4294967296 ∧ 4294967296 * ri + (un0 : Int) < qi * (vn0 : Int) := by
            rw [← eq, ← er, pe]
            rcases hA with h | h
            · exact Or.inl (by omega)
            · rcases Nat.lt_or_ge q 4294967296 with h1 | h1
              · exact Or.inr ⟨by omega, by clear pe p0 p1; generalize q * vn0 = X at *; omega⟩
              · exact Or.inl (by omega)
          have qi1 : 1 ≤ qi := by omega
          have HE := Lib.hid eq
          have HR := Lib.hid er
          rw [eq] at p0 p1
          clear hA pe g
          by_cases hB : 4294967296 ≤ r + vn1
          · have hlast : q - 1 = Q0 := by rw [← HQ0.out]; exact g2.out.last HEV.out (by omega) lv0 (by omega) hB
            have HL := Lib.hid (show qi - 1 = (Q0 : Int) by omega)
            have hBi : 4294967296 ≤ ri + (vn1 : Int) := by omega
            have hBw : IntKind.u64.wrap (ri + (vn1 : Int)) = ri + (vn1 : Int) := by rw [IntKind.wrap_u64]; omega
            rw [eq, er]
            clear hlast hB eq er hq hr q0 g2
            rcases hT with hT | ⟨hT1, hT2⟩
            all_goals
              go_wp2_with fail
              go_meet
              exact ⟨by rw [← HL.out], rfl⟩
          · have hBi : ri + (vn1 : Int) < 4294967296 := by omega
            have HP := Lib.hid (show qi - 1 = ((q - 1 : Nat) : Int) ∧ ri + (vn1 : Int) = ((r + vn1 : Nat) : Int) ∧ (q - 1 ≤ 4294967297 ∧ r + vn1 < 4294967296) by omega)
            rw [eq, er]
            clear hB eq er hq hr q0
            rcases hT with hT | ⟨hT1, hT2⟩
            all_goals
              go_wp2_with fail
              go_round
              case rel => exact ⟨q - 1, r + vn1, by rw [← HP.out.1], by rw [← HP.out.2.1], g2, HP.out.2.2.1, HP.out.2.2.2⟩
              case measure => simp [intOf]; omega
        · have hM : q * vn0 ≤ r * 4294967296 + un0 := by omega
          have hlast : q = Q0 := by rw [← HQ0.out]; exact g.out.stop HEV.out (by omega) hM
          have hN : qi < 4294967296 := by omega
          have hT : qi * (vn0 : Int) ≤ 4294967296 * ri + (un0 : Int) := by
            rw [← eq, ← er, pe]; clear pe p0 p1 hlast hA; generalize q * vn0 = X at *; omega
          have HL := Lib.hid (show qi = (Q0 : Int) by omega)
          rw [eq] at p0 p1
          rw [eq, er]
          clear hlast hA hM pe eq er hq hr g
          go_wp2_with fail
          go_meet
          exact ⟨by rw [← HL.out], rfl⟩

    case rest =>
      obtain ⟨rfl, rfl⟩ := hcut
      obtain ⟨Qi, hQi⟩ : ∃ Qi : Int, (Q1 : Int) = Qi := ⟨_, rfl⟩
      obtain ⟨Ri, hRi⟩ : ∃ Ri : Int, (Q0 : Int) = Ri := ⟨_, rfl⟩
      have b1 : 0 ≤ Qi := by omega
      have b2 : Qi < 4294967296 := by omega
      have b3 : 0 ≤ Ri := by omega
      have b4 : Ri < 4294967296 := by omega
      have HX := Lib.hid (show Qi * 4294967296 + Ri = ((Q1 * 4294967296 + Q0 : Nat) : Int) by omega)
      rw [hQi, hRi]
      rw [hRi] at e20
      rw [hQi] at e21
      have hpw : ((R0 / 2 ^ s : Nat) : Int) = (R0 : Int) / 2 ^ s := by rw [Int.natCast_ediv, Int.natCast_pow]; rfl
      clear hQi hRi q1b q0b
      go_wp2_with fail
      go_ret2
      exact ⟨by rw [HF.out.1, HF.out.2, hpw, ← HX.out]; rfl, rfl⟩
end Go.Proofs.Ytipniooflaiikaa
