/-
  The walk of CheckedRanks.
-/
import Derived.Test.YtmjchiebpnnbpaaE4
import Derived.Deep.DeepCutAuto
set_option linter.unusedVariables false
set_option linter.unusedSimpArgs false
namespace Go.Proofs.Ytmjchiebpnnbpaa
open Go.RowKit Go.Shelf

/-- what the three comparisons say of each other -/
theorem ranks_law {an ad bn bd cn cd : Int} (ha : 1 ≤ ad) (hb : 1 ≤ bd) (hc : 1 ≤ cd) :
    ∃ x z v : Int, comV an ad bn bd = x ∧ comV bn bd an ad = -x ∧ comV bn bd cn cd = z ∧ comV an ad cn cd = v ∧ comE an ad bn bd = 0 ∧ comE bn bd an ad = 0 ∧ comE bn bd cn cd = 0 ∧ comE an ad cn cd = 0 ∧
      -1 ≤ x ∧ x ≤ 1 ∧ -1 ≤ z ∧ z ≤ 1 ∧ -1 ≤ v ∧ v ≤ 1 ∧ (x ≤ 0 → z ≤ 0 → v ≤ 0) ∧ (0 ≤ x → 0 ≤ z → 0 ≤ v) := by
  have c1 := cmp_sgn (an * bd) (bn * ad)
  have c2 := cmp_sgn (bn * cd) (cn * bd)
  have c3 := cmp_sgn (an * cd) (cn * ad)
  have c4 := cmp_sgn (bn * ad) (an * bd)
  have t1 := com_trans (an := an) (ad := ad) (bn := bn) (bd := bd) (cn := cn) (cd := cd) ha hb hc
  have t2 := com_trans (an := cn) (ad := cd) (bn := bn) (bd := bd) (cn := an) (cd := ad) hc hb ha
  refine ⟨_, _, _, rfl, ?_, rfl, rfl, ?_, ?_, ?_, ?_, ?_⟩
  · unfold comV; rw [if_neg (by omega), if_neg (by omega)]; exact c4.2.2.2.1
  · unfold comE; rw [if_neg (by omega)]
  · unfold comE; rw [if_neg (by omega)]
  · unfold comE; rw [if_neg (by omega)]
  · unfold comE; rw [if_neg (by omega)]
  · unfold comV
    rw [if_neg (by omega), if_neg (by omega), if_neg (by omega)]
    generalize cmp (an * bd) (bn * ad) = x at *
    generalize cmp (bn * cd) (cn * bd) = z at *
    generalize cmp (an * cd) (cn * ad) = v at *
    generalize an * bd = p1 at *
    generalize bn * ad = p2 at *
    generalize bn * cd = p3 at *
    generalize cn * bd = p4 at *
    generalize an * cd = p5 at *
    generalize cn * ad = p6 at *
    refine ⟨c1.2.2.2.2.1, c1.2.2.2.2.2, c2.2.2.2.2.1, c2.2.2.2.2.2, c3.2.2.2.2.1, c3.2.2.2.2.2, ?_, ?_⟩ <;> intro k1 k2 <;> omega

set_option maxRecDepth 100000 in
set_option maxHeartbeats 4000000 in
theorem ranks_walk (an ad bn bd cn cd : Int) (h1 : Fits an) (h2 : Fits ad) (h3 : Fits bn) (h4 : Fits bd) (h5 : Fits cn) (h6 : Fits cd) (w : World) :
    Calls Try.prog 11 #[.agg #[.int .i64 an, .int .i64 ad], .agg #[.int .i64 bn, .int .i64 bd], .agg #[.int .i64 cn, .int .i64 cd]] w fun e w' => e = .returned (.bool true) ∧ Below w.heap.size w w' := by
  have q := below_new3 w (.cells #[.int .i64 an, .int .i64 ad] 32) (.cells #[.int .i64 bn, .int .i64 bd] 32) (.cells #[.int .i64 cn, .int .i64 cd] 32)
  have ka := ((Blk.new w 32 #[.int .i64 an, .int .i64 ad]).alloc (.cells #[.int .i64 bn, .int .i64 bd] 32)).alloc (.cells #[.int .i64 cn, .int .i64 cd] 32)
  have kb := (Blk.new2 w (.cells #[.int .i64 an, .int .i64 ad] 32) 32 #[.int .i64 bn, .int .i64 bd]).alloc (.cells #[.int .i64 cn, .int .i64 cd] 32)
  have kc := Blk.new3 w (.cells #[.int .i64 an, .int .i64 ad] 32) (.cells #[.int .i64 bn, .int .i64 bd] 32) 32 #[.int .i64 cn, .int .i64 cd]
  by_cases hbad : ad < 1 ∨ bd < 1 ∨ cd < 1
  · go_enter Try.func11, Try.ntmps11
    go_upto_region 1 with fail
    generalize ((w.alloc (.cells #[.int .i64 an, .int .i64 ad] 32)).alloc (.cells #[.int .i64 bn, .int .i64 bd] 32)).alloc (.cells #[.int .i64 cn, .int .i64 cd] 32) = W0 at *
    have ka1 := ka.cell 1
    have kb1 := kb.cell 1
    have kc1 := kc.cell 1
    simp at ka1 kb1 kc1
    by_cases pa : ad < 1
    · go_wp2_with (go_at_call 15; refine (works_ok _).mono ?_; rintro e w9 ⟨rfl, hv9⟩)
      go_ret
      exact ⟨rfl, below_end q q.size hv9⟩
    · by_cases pb : bd < 1
      · go_wp2_with (go_at_call 15; refine (works_ok _).mono ?_; rintro e w9 ⟨rfl, hv9⟩)
        go_ret
        exact ⟨rfl, below_end q q.size hv9⟩
      · have pc : cd < 1 := by omega
        go_wp2_with (go_at_call 15; refine (works_ok _).mono ?_; rintro e w9 ⟨rfl, hv9⟩)
        go_ret
        exact ⟨rfl, below_end q q.size hv9⟩
  have pa : 1 ≤ ad := by omega
  have pb : 1 ≤ bd := by omega
  have pc : 1 ≤ cd := by omega
  clear hbad
  obtain ⟨x, z, v, X, Y, Z, V, EX, EY, EZ, EV, b1, b2, b3, b4, b5, b6, t1, t2⟩ := ranks_law (an := an) (bn := bn) (cn := cn) pa pb pc
  have HX := Lib.hid X
  have HY := Lib.hid Y
  have HZ := Lib.hid Z
  have HV := Lib.hid V
  have HEX := Lib.hid EX
  have HEY := Lib.hid EY
  have HEZ := Lib.hid EZ
  have HEV := Lib.hid EV
  have HT1 := Lib.hid t1
  have HT2 := Lib.hid t2
  clear X Y Z V EX EY EZ EV t1 t2
  go_enter Try.func11, Try.ntmps11
  go_upto_region 1 with fail
  generalize ((w.alloc (.cells #[.int .i64 an, .int .i64 ad] 32)).alloc (.cells #[.int .i64 bn, .int .i64 bd] 32)).alloc (.cells #[.int .i64 cn, .int .i64 cd] 32) = W0 at *
  have ka0 := ka.cell 0
  have ka1 := ka.cell 1
  have kb0 := kb.cell 0
  have kb1 := kb.cell 1
  have kc0 := kc.cell 0
  have kc1 := kc.cell 1
  simp at ka0 ka1 kb0 kb1 kc0 kc1
  go_wp2_with fail
  refine (compare_ok an ad bn bd h1 h2 h3 h4 _).mono ?_
  rw [HX.out, HEX.out]
  rintro e w1 ⟨rfl, hv1⟩
  have q := below_end q q.size hv1
  have ka := ka.below hv1 ka.lt
  have kb := kb.below hv1 kb.lt
  have kc := kc.below hv1 kc.lt
  clear ka0 ka1 kb0 kb1 kc0 kc1
  have ka0 := ka.cell 0
  have ka1 := ka.cell 1
  have kb0 := kb.cell 0
  have kb1 := kb.cell 1
  simp at ka0 ka1 kb0 kb1
  go_wp2_with fail
  refine (compare_ok bn bd an ad h3 h4 h1 h2 _).mono ?_
  rw [HY.out, HEY.out]
  rintro e w2 ⟨rfl, hv2⟩
  have q := below_end q q.size hv2
  have ka := ka.below hv2 ka.lt
  have kb := kb.below hv2 kb.lt
  have kc := kc.below hv2 kc.lt
  clear ka0 ka1 kb0 kb1
  have kb0 := kb.cell 0
  have kb1 := kb.cell 1
  have kc0 := kc.cell 0
  have kc1 := kc.cell 1
  simp at kb0 kb1 kc0 kc1
  go_wp2_with fail
  refine (compare_ok bn bd cn cd h3 h4 h5 h6 _).mono ?_
  rw [HZ.out, HEZ.out]
  rintro e w3 ⟨rfl, hv3⟩
  have q := below_end q q.size hv3
  have ka := ka.below hv3 ka.lt
  have kb := kb.below hv3 kb.lt
  have kc := kc.below hv3 kc.lt
  clear kb0 kb1 kc0 kc1
  have ka0 := ka.cell 0
  have ka1 := ka.cell 1
  have kc0 := kc.cell 0
  have kc1 := kc.cell 1
  simp at ka0 ka1 kc0 kc1
  go_wp2_with fail
  refine (compare_ok an ad cn cd h1 h2 h5 h6 _).mono ?_
  rw [HV.out, HEV.out]
  rintro e w4 ⟨rfl, hv4⟩
  have q := below_end q q.size hv4
  have ka := ka.below hv4 ka.lt
  have kb := kb.below hv4 kb.lt
  have kc := kc.below hv4 kc.lt
  clear ka0 ka1 kc0 kc1
  have hxx : - -x = x := by omega
  have hw : wrap64 (-(-x)) = x := by unfold wrap64; omega
  go_upto_region 9 with fail
  go_cut [94] (fun vb wx => vb = .bool false ∧ wx = w4)
  case first =>
    have hx : x = -1 ∨ x = 0 ∨ x = 1 := by omega
    have hz : z = -1 ∨ z = 0 ∨ z = 1 := by omega
    have hv : v = -1 ∨ v = 0 ∨ v = 1 := by omega
    have k1 := HT1.out
    have k2 := HT2.out
    clear HX HY HZ HV HEX HEY HEZ HEV HT1 HT2 b1 b2 b3 b4 b5 b6 hxx hw
    rcases hx with rfl | rfl | rfl <;> rcases hz with rfl | rfl | rfl <;> rcases hv with rfl | rfl | rfl
    all_goals first
      | (exfalso; omega)
      | (clear k1 k2; go_wp2_with fail; go_meet; exact ⟨rfl, rfl⟩)
  case rest =>
    obtain ⟨rfl, rfl⟩ := hcut
    have ka0 := ka.cell 0
    have ka1 := ka.cell 1
    have kb0 := kb.cell 0
    have kb1 := kb.cell 1
    have kc0 := kc.cell 0
    have kc1 := kc.cell 1
    simp at ka0 ka1 kb0 kb1 kc0 kc1
    go_wp2_with fail
    refine (twins_ok an ad bn bd h1 h2 h3 h4 pa pb _).mono ?_
    rintro e w5 ⟨rfl, hv5⟩
    have q := below_end q q.size hv5
    have kb := kb.below hv5 kb.lt
    have kc := kc.below hv5 kc.lt
    clear ka0 ka1 kb0 kb1 kc0 kc1
    have kb0 := kb.cell 0
    have kb1 := kb.cell 1
    have kc0 := kc.cell 0
    have kc1 := kc.cell 1
    simp at kb0 kb1 kc0 kc1
    go_wp2_with fail
    refine (twins_ok bn bd cn cd h3 h4 h5 h6 pb pc _).mono ?_
    rintro e w6 ⟨rfl, hv6⟩
    have q := below_end q q.size hv6
    go_wp2_with fail
    refine (works_ok _).mono ?_
    rintro e w7 ⟨rfl, hv7⟩
    go_wp2_with fail
    go_ret
    exact ⟨rfl, below_end q q.size hv7⟩
end Go.Proofs.Ytmjchiebpnnbpaa
