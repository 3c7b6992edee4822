/-
  The document's histograms: same, Merge.
-/
import Derived.Test.YtcmkjbliiggcbaaM1
set_option linter.unusedVariables false
set_option linter.unusedSimpArgs false
namespace Go.Proofs.Ytcmkjbliiggcbaa
open Go.RowKit Go.Shelf
set_option maxRecDepth 100000 in
set_option maxHeartbeats 1000000 in
theorem rsame_ok (n m ca cb : Nat) (A B : Option Addr) (z y : Nat → Int) (w : World) (ha : ArgI .i64 w A n ca z) (hb : ArgI .i64 w B m cb y) (hn : n ≤ 100000) :
    Calls Try.prog 47 #[.slice A n ca, .slice B m cb] w fun e w' => ((e = .returned (.bool true) ∧ SameL n m z y) ∨ (e = .returned (.bool false) ∧ ¬ SameL n m z y)) ∧ Below w.heap.size w w' := by
  by_cases hnm : n = m
  · subst hnm
    go_enter Try.func47, Try.ntmps47
    go_wp2_with fail
    go_loopw [5] (fun vi wr => ∃ k : Nat, vi = .int .i64 k ∧ k ≤ n ∧ Hid (∀ j, j < k → z j = y j) ∧ ArgI .i64 wr A n ca z ∧ ArgI .i64 wr B n cb y ∧ Below w.heap.size w wr) (fun vi _ => n - (intOf vi).toNat)
    case atStart => exact ⟨0, rfl, Nat.zero_le _, Lib.hid (fun j hj => by omega), ha, hb, Below.refl _ _⟩
    case round =>
      clear ha hb
      obtain ⟨k, rfl, hk, HJ, ha, hb, q⟩ := hrel
      by_cases hlt : k < n
      · obtain ⟨g, o, rfl, hg, hcell⟩ := ha.2.2.1 (by omega)
        obtain ⟨g', o', rfl, hg', hcell'⟩ := hb.2.2.1 (by omega)
        have c1 := hcell k hlt
        have c2 := hcell' k hlt
        have hkn : (k : Int) < (n : Int) := by omega
        have hcn := ha.1
        have hcn' := hb.1
        clear hcell hcell'
        obtain ⟨u, hu⟩ : ∃ u, z k = u := ⟨_, rfl⟩
        obtain ⟨v, hv⟩ : ∃ v, y k = v := ⟨_, rfl⟩
        have HU := Lib.hid (And.intro hu hv)
        rw [hu] at c1
        rw [hv] at c2
        clear hu hv
        by_cases huv : u = v
        · have HJ2 := Lib.hid (show ∀ j, j < k + 1 → z j = y j from fun j hj => by
            rcases Nat.lt_or_ge j k with h1 | h1
            · exact HJ.out j h1
            · obtain rfl : j = k := by omega
              rw [HU.out.1, HU.out.2]; exact huv)
          subst huv
          go_wp2_with fail
          go_quiet (fail)
          go_wp2_with fail
          go_roundw
          case rel => exact ⟨k + 1, by simp, by omega, HJ2, ha.below (below_drewN (Below.refl _ _) _), hb.below (below_drewN (Below.refl _ _) _), below_drewN q _⟩
          case measure => simp [intOf]; omega
        · have HD := Lib.hid (show ¬ SameL n n z y from fun h => huv (by have := h.2 k hlt; rw [HU.out.1, HU.out.2] at this; exact this))
          have huv1 : (u == v) = false := by simpa using huv
          go_wp2_with fail
          go_quiet (fail)
          go_wp2_with fail
          go_ret
          exact ⟨Or.inr ⟨rfl, HD.out⟩, below_drewN q _⟩
      · obtain rfl : k = n := by omega
        go_wp2_with fail
        go_ret
        exact ⟨Or.inl ⟨rfl, rfl, HJ.out⟩, q⟩
  · have hnm1 : ((n : Int) == (m : Int)) = false := by simp; omega
    have HD := Lib.hid (show ¬ SameL n m z y from fun h => hnm h.1)
    have hnm2 : ¬ (n : Int) = (m : Int) := by omega
    clear hnm
    go_enter Try.func47, Try.ntmps47
    go_wp2_with fail
    go_ret
    exact ⟨Or.inr ⟨rfl, HD.out⟩, Below.refl _ _⟩


section
variable {w : World} {p n : Nat} {B C : Nat → Int} {T : Int} {A : Option Addr} {cb s cs p' n' : Nat} {B' C' : Nat → Int} {T' : Int} {A' : Option Addr} {cb' s' cs' : Nat}
set_option maxRecDepth 100000 in
theorem rcounts_ok2 (h : RHist w p n B C A cb s cs) (hC : ∀ j, j < n + 1 → Fits (C j)) :
    Calls Try.prog 43 #[.pointer (some ⟨p, 0, none⟩)] w fun e w' => ∃ A' c', e = .returned (.slice A' (n + 1) c') ∧ ArgI .i64 w' A' (n + 1) c' C ∧ (∀ g o, A' = some ⟨g, o, none⟩ → w.heap.size ≤ g) ∧ Below w.heap.size w w' := by
  have hv := rvalid_ok h
  have hle := h.le
  have ha := row_arg h.row h.cap h.big hC
  obtain ⟨c0, c1, c2⟩ := h.cells
  go_enter Try.func43, Try.ntmps43
  go_wp2_with (first
    | (go_at_call 36; refine hv.mono ?_; rintro e w' ⟨rfl, rfl⟩)
    | (at_builtin; refine wpList_append_ints rfl _ _ rfl w.heap.size (.slice none 0 0) 0 (fun _ => 0) rfl (World.ownsRow_nil _ _ _ _) (some ⟨s, 0, none⟩) (n + 1) cs C rfl ha (fun h => by cases h) (by omega) (Nat.le_refl _) ?_; intro v' w1 hown hgrow; rw [Nat.zero_add, vals_ext (y := C) (fun j hj => by unfold cat; rw [if_neg (by omega)]; rfl)] at hown; have hb1 := (Below.refl w.heap.size w).grown hgrow (Nat.le_refl _) (fun k hk => by simp [Value.ownBlock] at hk); obtain ⟨A', c', rfl, h1, h2, h3⟩ := own_arg hown hC))
  go_ret
  exact ⟨_, _, rfl, h1, h3, hb1⟩

theorem rvoid_merge (w : World) (u : Option Addr) : Calls Try.prog 28 #[.pointer none, .pointer u] w fun e w' => e = .returned (.int .i64 1) ∧ w = w' := by
  have hv := rvalid_no w
  go_enter Try.func28, Try.ntmps28
  go_wp2_with (go_at_call 36; refine hv.mono ?_; rintro e w' ⟨rfl, rfl⟩)
  go_ret
  exact ⟨rfl, rfl⟩
theorem rmerge_void (h : RHist w p n B C A cb s cs) : Calls Try.prog 28 #[.pointer (some ⟨p, 0, none⟩), .pointer none] w fun e w' => e = .returned (.int .i64 1) ∧ w = w' := by
  have hv := rvalid_ok h
  have kv := rvalid_no w
  go_enter Try.func28, Try.ntmps28
  go_wp2_with fail
  refine hv.mono ?_
  rintro e w' ⟨rfl, rfl⟩
  go_wp2_with fail
  refine kv.mono ?_
  rintro e w' ⟨rfl, rfl⟩
  go_wp2_with fail
  go_ret
  exact ⟨rfl, rfl⟩
set_option maxRecDepth 100000 in
set_option maxHeartbeats 2000000 in
theorem rmerge_diff (h : RHist w p n B C A cb s cs) (k : RHist w p' n' B' C' A' cb' s' cs') (hd : ¬ SameL n n' B B') :
    Calls Try.prog 28 #[.pointer (some ⟨p, 0, none⟩), .pointer (some ⟨p', 0, none⟩)] w fun e w' => e = .returned (.int .i64 2) ∧ Below w.heap.size w w' := by
  have hv := rvalid_ok h
  have kv := rvalid_ok k
  have hle := h.le
  have hD := h.below (Below.refl _ w).drew
  have kD := k.below (Below.refl _ w).drew
  have q := (Below.refl w.heap.size w).drew
  go_enter Try.func28, Try.ntmps28
  go_wp2_with fail
  refine hv.mono ?_
  rintro e w' ⟨rfl, rfl⟩
  go_wp2_with fail
  refine kv.mono ?_
  rintro e w' ⟨rfl, rfl⟩
  go_wp2_with fail
  obtain ⟨c0, c1, c2⟩ := hD.cells
  obtain ⟨d0, d1, d2⟩ := kD.cells
  go_region_held3 (fun w'' => w''.cell? ⟨p, 1, none⟩ = some (.slice A n cb) ∧ w''.cell? ⟨p', 1, none⟩ = some (.slice A' n' cb')) (go_keep)
    (first
      | (go_at_call 47; refine (rsame_ok n n' cb cb' A A' B B' _ hD.arg kD.arg (by omega)).mono ?_; rintro e w1 ⟨he, hv1⟩; rcases he with ⟨_, he⟩ | ⟨rfl, _⟩; exact (hd he).elim; have h1 := hD.below hv1; have k1 := kD.below hv1; obtain ⟨m0, m1, m2⟩ := h1.cells; obtain ⟨n0, n1, n2⟩ := k1.cells)
      | fail)
  all_goals
    go_wp2_with fail
    go_ret
    exact ⟨rfl, below_end q q.size hv1⟩
set_option maxRecDepth 100000 in
set_option maxHeartbeats 2000000 in
theorem rmerge_over (h : RHist w p n B C A cb s cs) (k : RHist w p' n B' C' A' cb' s' cs') (hd : SameL n n B B') (hg : Good C n T) (kg : Good C' n T') (ho : 9223372036854775807 < T + T') :
    Calls Try.prog 28 #[.pointer (some ⟨p, 0, none⟩), .pointer (some ⟨p', 0, none⟩)] w fun e w' => e = .returned (.int .i64 7) ∧ Below w.heap.size w w' := by
  have hv := rvalid_ok h
  have kv := rvalid_ok k
  have hle := h.le
  have hT0 := hg.t0
  have hTl := hg.le
  have kT0 := kg.t0
  have kTl := kg.le
  have HG := Lib.hid hg
  have KG := Lib.hid kg
  have hov : 9223372036854775807 - T < T' := by omega
  have hD := h.below (Below.refl _ w).drew
  have kD := k.below (Below.refl _ w).drew
  have q := (Below.refl w.heap.size w).drew
  clear hg kg
  go_enter Try.func28, Try.ntmps28
  go_wp2_with fail
  refine hv.mono ?_
  rintro e w' ⟨rfl, rfl⟩
  go_wp2_with fail
  refine kv.mono ?_
  rintro e w' ⟨rfl, rfl⟩
  go_wp2_with fail
  obtain ⟨c0, c1, c2⟩ := hD.cells
  obtain ⟨d0, d1, d2⟩ := kD.cells
  go_region_held3 (fun w'' => w''.cell? ⟨p, 1, none⟩ = some (.slice A n cb) ∧ w''.cell? ⟨p', 1, none⟩ = some (.slice A' n cb')) (go_keep)
    (first
      | (go_at_call 47; refine (rsame_ok n n cb cb' A A' B B' _ hD.arg kD.arg (by omega)).mono ?_; rintro e w1 ⟨he, hv1⟩; rcases he with ⟨rfl, _⟩ | ⟨_, he⟩; rotate_left; exact (he hd).elim; have h1 := hD.below hv1; have k1 := kD.below hv1; obtain ⟨m0, m1, m2⟩ := h1.cells; obtain ⟨n0, n1, n2⟩ := k1.cells)
      | fail)
  all_goals
    go_wp2_with fail
    refine (rtotal_ok k1 KG.out).mono ?_
    rintro e w' ⟨rfl, rfl⟩
    go_wp2_with fail
    refine (rtotal_ok h1 HG.out).mono ?_
    rintro e w' ⟨rfl, rfl⟩
    go_wp2_with fail
    go_ret
    exact ⟨rfl, below_end q q.size hv1⟩
set_option maxRecDepth 100000 in
set_option maxHeartbeats 2000000 in
theorem rmerge_ok (h : RHist w p n B C A cb s cs) (k : RHist w p' n B' C' A' cb' s' cs') (hd : SameL n n B B') (hg : Good C n T) (kg : Good C' n T') (ho : T + T' ≤ 9223372036854775807) :
    Calls Try.prog 28 #[.pointer (some ⟨p, 0, none⟩), .pointer (some ⟨p', 0, none⟩)] w fun e w' => e = .returned (.int .i64 0) ∧ RHist w' p n B (addR C C' (n + 1)) A cb s cs ∧ Turns (· = s) w w' := by
  have hv := rvalid_ok h
  have kv := rvalid_ok k
  have hle := h.le
  have hT0 := hg.t0
  have hTl := hg.le
  have kT0 := kg.t0
  have kTl := kg.le
  have hps : p ≠ s := by
    obtain ⟨cs', h1, _⟩ := h.row
    exact Blk.ne_ h.blk h1 (by decide)
  have HF := Lib.hid (show ∀ j, j < n + 1 → Fits (C j) ∧ Fits (C' j) ∧ Fits (C j + C' j) from fun j hj => by
    have a1 := hg.at_ hj
    have a2 := kg.at_ hj
    exact ⟨⟨by omega, by omega⟩, ⟨by omega, by omega⟩, ⟨by omega, by omega⟩⟩)
  have HG := Lib.hid hg
  have KG := Lib.hid kg
  have hov : ¬ 9223372036854775807 - T < T' := by omega
  have hD := h.below (Below.refl _ w).drew
  have kD := k.below (Below.refl _ w).drew
  have q := (Below.refl w.heap.size w).drew
  have hslt := h.row.lt
  clear hg kg
  go_enter Try.func28, Try.ntmps28
  go_wp2_with fail
  refine hv.mono ?_
  rintro e w' ⟨rfl, rfl⟩
  go_wp2_with fail
  refine kv.mono ?_
  rintro e w' ⟨rfl, rfl⟩
  go_wp2_with fail
  obtain ⟨c0, c1, c2⟩ := hD.cells
  obtain ⟨d0, d1, d2⟩ := kD.cells
  go_region_held3 (fun w'' => w''.cell? ⟨p, 1, none⟩ = some (.slice A n cb) ∧ w''.cell? ⟨p', 1, none⟩ = some (.slice A' n cb')) (go_keep)
    (first
      | (go_at_call 47; refine (rsame_ok n n cb cb' A A' B B' _ hD.arg kD.arg (by omega)).mono ?_; rintro e w1 ⟨he, hv1⟩; rcases he with ⟨rfl, _⟩ | ⟨_, he⟩; rotate_left; exact (he hd).elim; have h1 := hD.below hv1; have k1 := kD.below hv1; obtain ⟨m0, m1, m2⟩ := h1.cells; obtain ⟨n0, n1, n2⟩ := k1.cells)
      | fail)
  all_goals
    go_wp2_with fail
    refine (rtotal_ok k1 KG.out).mono ?_
    rintro e w' ⟨rfl, rfl⟩
    go_wp2_with fail
    refine (rtotal_ok h1 HG.out).mono ?_
    rintro e w' ⟨rfl, rfl⟩
    go_wp2_with fail
    refine (rcounts_ok2 k1 (fun j hj => (HF.out j hj).2.1)).mono ?_
    rintro e w2 ⟨E, ce, rfl, hE, hEg, hv2⟩
    have q1 := below_end q q.size hv1
    have h2 := h1.below hv2
    have hz1 : w.heap.size ≤ w1.heap.size := q1.size
    have t2 : Turns (· = s) w w2 := Turns.of_below (below_end q1 q1.size hv2) _
    have h20 : RHist w2 p n B (addR C C' 0) A cb s cs := ⟨h2.blk, h2.row.congr (fun i hi => by unfold addR; rw [if_neg (by omega)]), h2.arg, h2.nil, h2.far, h2.cap, h2.big, h2.le⟩
    clear h1 k1 m0 m1 m2 n0 n1 n2 c0 c1 c2 d0 d1 d2 hD kD hv kv h2
    go_wp2_with fail
    go_loopw [6] (fun vi wr => ∃ i : Nat, vi = .int .i64 i ∧ i ≤ n + 1 ∧ RHist wr p n B (addR C C' i) A cb s cs ∧ ArgI .i64 wr E (n + 1) ce C' ∧ Turns (· = s) w wr) (fun vi _ => n + 1 - (intOf vi).toNat)
    case atStart => exact ⟨0, rfl, Nat.zero_le _, h20, hE, t2⟩
    case round =>
      clear h20 hE t2
      obtain ⟨i, rfl, hi, hh, hE, ht⟩ := hrel
      by_cases hlt : i < n + 1
      · obtain ⟨g, o, rfl, hg, hc⟩ := hE.2.2.1 (by omega)
        have hgs : g ≠ s := by have := hEg g o rfl; omega
        have ci := hc i hlt
        have hin : (i : Int) < (n : Int) + 1 := by omega
        have hcE := hE.1
        have hcap := hh.cap
        have hrow := hh.row.cell hlt
        have ek : addR C C' i i = C i := by unfold addR; rw [if_neg (by omega)]
        rw [ek] at hrow
        obtain ⟨f1, f2, f3⟩ := HF.out i hlt
        obtain ⟨u, hu⟩ : ∃ u, C i = u := ⟨_, rfl⟩
        obtain ⟨v, hv⟩ : ∃ v, C' i = v := ⟨_, rfl⟩
        rw [hu] at hrow f1 f3
        rw [hv] at ci f2 f3
        have HU := Lib.hid (And.intro hu hv)
        have hw : IntKind.i64.wrap (u + v) = u + v := wrap_i64 f3.1 f3.2
        clear ek hu hv f1 f2 f3 hc
        obtain ⟨c0, c1, c2⟩ := hh.cells
        go_wp2_with fail
        clear c0 c1 c2
        have hhd := hh.below (Below.refl _ wr).drew
        obtain ⟨c0, c1, c2⟩ := hhd.cells
        have d1 : wr.drew.cell? ⟨s, i, none⟩ = some (.int .i64 u) := hrow
        have d2 : wr.drew.cell? ⟨g, o + i, none⟩ = some (.int .i64 v) := ci
        have dz : wr.drew.frozen? ⟨s, i, none⟩ = false := hhd.row.frozen i
        go_region
        all_goals
          have R : RHist (wr.drew.setCell ⟨s, i, none⟩ (.int .i64 (u + v))) p n B (addR C C' (i + 1)) A cb s cs := by
            refine ⟨hhd.blk.far (by exact hps) _, (hhd.row.set_ i (u + v)).congr (fun j hj => ?_), ArgI.far hhd.arg (fun hn g o e => (hhd.far hn g o e).1) _, hhd.nil, hhd.far, hhd.cap, hhd.big, hhd.le⟩
            unfold addR
            by_cases h1 : j = i
            · subst h1; rw [if_pos rfl, if_pos (by omega), HU.out.1, HU.out.2]
            · rw [if_neg h1]
              by_cases h2 : j < i
              · rw [if_pos h2, if_pos (by omega)]
              · rw [if_neg h2, if_neg (by omega)]
          have hE2 : ArgI .i64 (wr.drew.setCell ⟨s, i, none⟩ (.int .i64 (u + v))) (some ⟨g, o, none⟩) (n + 1) ce C' := ArgI.far (hE.below (Below.refl _ wr).drew) (fun _ g' o' e => by cases e; exact hgs) _
          have ht2 : Turns (· = s) w (wr.drew.setCell ⟨s, i, none⟩ (.int .i64 (u + v))) := (ht.drew).setCell (p := ⟨s, i, none⟩) (.inr rfl) _
          go_wp2_with fail
          go_roundw
          case rel => exact ⟨i + 1, by simp, by omega, R, hE2, ht2⟩
          case measure => simp [intOf]; omega
      · obtain rfl : i = n + 1 := by omega
        have hcap := hh.cap
        obtain ⟨c0, c1, c2⟩ := hh.cells
        go_wp2_with fail
        go_ret
        exact ⟨rfl, hh, ht⟩
end
end Go.Proofs.Ytcmkjbliiggcbaa
