/-
  The walk of FenwickPlays.
-/
import Derived.Test.YtjikfmacdacgaaaR8
import Derived.Test.YtjikfmacdacgaaaR5
import Derived.Test.YtjikfmacdacgaaaOpen
set_option linter.unusedVariables false
set_option linter.unusedSimpArgs false
namespace Go.Proofs.Ytjikfmacdacgaaa
open Go.RowKit Go.Shelf Fw

theorem step_cells {w : World} {g o i : Nat} {z : Nat → Nat → Int} {n : Nat} (h : ∀ i, i < n → ∀ j k, [IntKind.i64, .i64, .i64, .i64, .i64, .i64][j]? = some k → w.cell? ⟨g, o + (i * 6 + j), none⟩ = some (.int k (z i j))) (hi : i < n) :
    w.cell? ⟨g, o + i * 6, none⟩ = some (.int .i64 (z i 0)) ∧ w.cell? ⟨g, o + i * 6 + 1, none⟩ = some (.int .i64 (z i 1)) ∧ w.cell? ⟨g, o + i * 6 + 2, none⟩ = some (.int .i64 (z i 2)) ∧
    w.cell? ⟨g, o + i * 6 + 3, none⟩ = some (.int .i64 (z i 3)) ∧ w.cell? ⟨g, o + i * 6 + 4, none⟩ = some (.int .i64 (z i 4)) ∧ w.cell? ⟨g, o + i * 6 + 5, none⟩ = some (.int .i64 (z i 5)) := by
  have h0 := h i hi
  exact ⟨h0 0 _ rfl, h0 1 _ rfl, h0 2 _ rfl, h0 3 _ rfl, h0 4 _ rfl, h0 5 _ rfl⟩

abbrev ks6 : List IntKind := [.i64, .i64, .i64, .i64, .i64, .i64]

def newOk (m : Int) : Bool := decide (0 ≤ m ∧ m ≤ 65536)
def newN (m : Int) : Nat := if newOk m then m.toNat else 0
def newCode (m : Int) : Int := if newOk m then 0 else 2

theorem new_st (m : Int) (w : World) : Calls Try.prog 12 #[.int .i64 m] w fun e w' => ∃ p b s, e = .returned (.tuple #[.pointer p, .int .i64 (newCode m)]) ∧ p.isNone = !(newOk m) ∧ St w' p b s (newN m) (fun _ => 0) (newOk m) ∧
    w.heap.size ≤ b ∧ w.heap.size ≤ s ∧ (newOk m = true → b < w'.heap.size ∧ s < w'.heap.size) ∧ Below w.heap.size w w' := by
  by_cases h : 0 ≤ m ∧ m ≤ 65536
  · have e1 : newOk m = true := by simp [newOk, h]
    have e2 : newN m = m.toNat := by simp [newN, e1]
    have e3 : newCode m = 0 := by simp [newCode, e1]
    obtain ⟨n, rfl⟩ := Int.eq_ofNat_of_zero_le h.1
    rw [e2, e3, e1, Int.toNat_natCast]
    refine (new_ok n w (by omega)).mono ?_
    rintro e w' ⟨b, s, rfl, hf, h1, h2, hb⟩
    exact ⟨_, b, s, rfl, rfl, .inl ⟨rfl, rfl, hf⟩, h1, h2, fun _ => hf.fw.lt, hb⟩
  · have e1 : newOk m = false := by simp only [newOk, decide_eq_false_iff_not]; exact h
    have e2 : newN m = 0 := by simp [newN, e1]
    have e3 : newCode m = 2 := by simp [newCode, e1]
    rw [e2, e3, e1]
    refine (new_bad m w (by omega)).mono ?_
    rintro e w' ⟨rfl, rfl⟩
    exact ⟨none, w.heap.size, w.heap.size, rfl, rfl, .inr ⟨rfl, .inl rfl, rfl⟩, Nat.le_refl _, Nat.le_refl _, (fun h => by cases h), Below.refl _ _⟩
theorem rnew_st (m : Int) (w : World) : Calls Try.prog 13 #[.int .i64 m] w fun e w' => ∃ p b s, e = .returned (.tuple #[.pointer p, .int .i64 (newCode m)]) ∧ p.isNone = !(newOk m) ∧ RSt w' p b s (newN m) (fun _ => 0) (newOk m) ∧
    w.heap.size ≤ b ∧ w.heap.size ≤ s ∧ Below w.heap.size w w' := by
  by_cases h : 0 ≤ m ∧ m ≤ 65536
  · have e1 : newOk m = true := by simp [newOk, h]
    have e2 : newN m = m.toNat := by simp [newN, e1]
    have e3 : newCode m = 0 := by simp [newCode, e1]
    obtain ⟨n, rfl⟩ := Int.eq_ofNat_of_zero_le h.1
    rw [e2, e3, e1, Int.toNat_natCast]
    refine (rnew_ok n w (by omega)).mono ?_
    rintro e w' ⟨b, s, rfl, hf, h1, h2, hb⟩
    exact ⟨_, b, s, rfl, rfl, .inl ⟨rfl, rfl, hf⟩, h1, h2, hb⟩
  · have e1 : newOk m = false := by simp only [newOk, decide_eq_false_iff_not]; exact h
    have e2 : newN m = 0 := by simp [newN, e1]
    have e3 : newCode m = 2 := by simp [newCode, e1]
    rw [e2, e3, e1]
    refine (rnew_bad m w (by omega)).mono ?_
    rintro e w' ⟨rfl, rfl⟩
    exact ⟨none, w.heap.size, w.heap.size, rfl, rfl, .inr ⟨rfl, rfl, rfl⟩, Nat.le_refl _, Nat.le_refl _, Below.refl _ _⟩

theorem copy_st (p : Option Addr) (b s n : Nat) (C : Nat → Int) (v : Bool) (w : World) (h : St w p b s n C v) :
    Calls Try.prog 24 #[.pointer p] w fun e w' => ∃ p' b' s', e = .returned (.pointer p') ∧ St w' p' b' s' n C v ∧ w.heap.size ≤ b' ∧ w.heap.size ≤ s' ∧ (v = true → b' < w'.heap.size ∧ s' < w'.heap.size) ∧ Below w.heap.size w w' := by
  rcases h with ⟨rfl, rfl, hf⟩ | ⟨rfl, hno, rfl⟩
  · refine (copy_ok b s n C w hf).mono ?_
    rintro e w' ⟨b', s', rfl, hf', h1, h2, hb⟩
    exact ⟨_, b', s', rfl, .inl ⟨rfl, rfl, hf'⟩, h1, h2, fun _ => hf'.fw.lt, hb⟩
  · refine (copy_no p w hno).mono ?_
    rintro e w' ⟨rfl, rfl⟩
    exact ⟨none, w.heap.size, w.heap.size, rfl, .inr ⟨rfl, .inl rfl, rfl⟩, Nat.le_refl _, Nat.le_refl _, (fun h => by cases h), Below.refl _ _⟩
theorem rcopy_st (p : Option Addr) (b s n : Nat) (C : Nat → Int) (v : Bool) (w : World) (h : RSt w p b s n C v) :
    Calls Try.prog 25 #[.pointer p] w fun e w' => ∃ p' b' s', e = .returned (.pointer p') ∧ RSt w' p' b' s' n C v ∧ w.heap.size ≤ b' ∧ w.heap.size ≤ s' ∧ Below w.heap.size w w' := by
  rcases h with ⟨rfl, rfl, hf⟩ | ⟨rfl, rfl, rfl⟩
  · refine (rcopy_ok b s n C w hf).mono ?_
    rintro e w' ⟨b', s', rfl, hf', h1, h2, hb⟩
    exact ⟨_, b', s', rfl, .inl ⟨rfl, rfl, hf'⟩, h1, h2, hb⟩
  · refine (rcopy_no w).mono ?_
    rintro e w' ⟨rfl, rfl⟩
    exact ⟨none, w.heap.size, w.heap.size, rfl, .inr ⟨rfl, rfl, rfl⟩, Nat.le_refl _, Nat.le_refl _, Below.refl _ _⟩

theorem pair_mk {w : World} {B H : Nat} {p q : Option Addr} {n : Nat} {C : Nat → Int} {v : Bool} {b s rb rs : Nat} (hS : St w p b s n C v) (hR : RSt w q rb rs n C v)
    (hb : v = true → b < H ∧ s < H) (hr : H ≤ rb ∧ H ≤ rs) (hB : B ≤ s) (hH : B ≤ H) : ∃ b s rb rs, Pair w B p q n C v b s rb rs := by
  cases v with
  | true =>
    obtain ⟨h1, h2⟩ := hb rfl
    exact ⟨b, s, rb, rs, hS, hR, by omega, by omega, by omega, hB, by omega, .inl (by
      rcases hS with ⟨_, _, hf⟩ | ⟨h, _⟩
      · exact hf.fw.lt.2
      · cases h)⟩
  | false =>
    rcases hS with ⟨h, _⟩ | ⟨h0, h1, h2⟩
    · cases h
    rcases hR with ⟨h, _⟩ | ⟨k0, k1, k2⟩
    · cases h
    exact ⟨B, B, B + 1, B + 1, .inr ⟨h0, h1, h2⟩, .inr ⟨k0, k1, k2⟩, by omega, by omega, by omega, Nat.le_refl _, by omega, .inr rfl⟩

theorem Pair.below {w w' : World} {B : Nat} {p q : Option Addr} {n : Nat} {C : Nat → Int} {v : Bool} {b s rb rs : Nat} (h : Pair w B p q n C v b s rb rs) (hb : Below w.heap.size w w') : Pair w' B p q n C v b s rb rs :=
  ⟨h.f.below hb, h.r.below hb, h.d1, h.d2, h.d3, h.Bs, h.Brs, h.lt.imp (fun h => Nat.lt_of_lt_of_le h hb.size) id⟩

theorem St.turns {S : Nat → Prop} {w w' : World} {p : Option Addr} {b s n : Nat} {C : Nat → Int} {v : Bool} (h : St w p b s n C v) (ht : Turns S w w') (h1 : ¬ S b) (h2 : ¬ S s) (hno : v = false → ∀ k, ¬ S k) : St w' p b s n C v := by
  rcases h with ⟨h0, h3, h4⟩ | ⟨h0, h3, h4⟩
  · exact .inl ⟨h0, h3, h4.turns ht h1 h2⟩
  · exact .inr ⟨h0, h3.below (ht.below (Nat.le_refl _) (fun k _ => hno h0 k)), h4⟩

set_option maxRecDepth 100000 in
set_option maxHeartbeats 1000000 in
theorem plays_walk (m : Int) (A : Option Addr) (len cap : Nat) (z : Nat → Nat → Int) (w : World) (ha : ArgS ks6 w A len cap z) :
    Calls Try.prog 9 #[.int .i64 m, .slice A len cap] w fun e w' => e = .returned (.bool true) ∧ Below w.heap.size w w' := by
  obtain ⟨hlc, hc63, hcells, hwf⟩ := id ha
  by_cases hbig : 200 < m
  · go_enter Try.func9, Try.ntmps9
    go_wp2_with (go_at_call 15; refine (works_ok _).mono ?_; rintro e w1 ⟨rfl, hb1⟩)
    go_ret
    exact ⟨rfl, hb1⟩
  by_cases hlen : 200 < len
  · have hbig' : decide (200 < m) = false := by simp; omega
    go_enter Try.func9, Try.ntmps9
    go_wp2_with (go_at_call 15; refine (works_ok _).mono ?_; rintro e w1 ⟨rfl, hb1⟩)
    go_ret
    exact ⟨rfl, hb1⟩
  have hbig' : decide (200 < m) = false := by simp; omega
  have hlen' : decide (200 < (len : Int)) = false := by simp; omega
  have hcl := Lib.hid hcells
  have hwl := Lib.hid hwf
  clear hcells hwf
  go_enter Try.func9, Try.ntmps9
  go_wp2_with fail
  refine (new_st m _).mono ?_
  rintro e w1 ⟨p, b, s, rfl, hpn, hS, hb, hs, hlt, hv1⟩
  go_wp2_with fail
  refine (rnew_st m _).mono ?_
  rintro e w2 ⟨q, rb, rs, rfl, hqn, hR, hrb, hrs, hv2⟩
  obtain ⟨b, s, rb, rs, hP⟩ := pair_mk (B := w.heap.size) (H := w1.heap.size) (hS.below hv2) hR hlt ⟨hrb, hrs⟩ hs hv1.size
  have hB2 := below_go hv1 (Nat.le_refl _) hv2
  clear hS hR hlt hrb hrs hv1 hv2
  generalize hvv : newOk m = v at *
  generalize hnn : newN m = n at *
  generalize hcc : newCode m = cc at *
  clear hvv hnn hcc
  go_wp2_with fail
  clear hpn hqn
  go_loopw [5, 7, 9] (fun vc vr vk wr => ∃ (k : Nat) (p q : Option Addr) (C : Nat → Int) (b s rb rs : Nat), vk = .int .i64 k ∧ k ≤ len ∧ vc = .pointer p ∧ vr = .pointer q ∧ Pair wr w.heap.size p q n C v b s rb rs ∧ Below w.heap.size w wr)
    (fun _ _ vk _ => len - (intOf vk).toNat)
  case atStart => exact ⟨0, p, q, _, b, s, rb, rs, rfl, Nat.zero_le _, rfl, rfl, hP, hB2⟩
  case round =>
    clear hP hB2
    obtain ⟨k, p, q, C, b, s, rb, rs, rfl, hk, rfl, rfl, hP, hB⟩ := hrel
    by_cases hlt : k < len
    · obtain ⟨g, o, rfl, hg, hc⟩ := (ha.below hB).2.2.1 (by omega)
      obtain ⟨e0, e1, e2, e3, e4, e5⟩ := step_cells hc hlt
      have hz0 := hB.size
      have hb1 := below_new1 wr (.cells #[.int .i64 (z k 0), .int .i64 (z k 1), .int .i64 (z k 2), .int .i64 (z k 3), .int .i64 (z k 4), .int .i64 (z k 5)] 23)
      have kx := Blk.new wr 23 #[.int .i64 (z k 0), .int .i64 (z k 1), .int .i64 (z k 2), .int .i64 (z k 3), .int .i64 (z k 4), .int .i64 (z k 5)]
      have hP1 := hP.below hb1
      have hB1 := below_go hB (Nat.le_refl _) hb1
      have hz1 := wf_i64 (hwl.out k hlt 2 _ rfl)
      have hz5 := (wf_i64 (hwl.out k hlt 5 _ rfl)).2
      have hzs : (wr.alloc (.cells #[.int .i64 (z k 0), .int .i64 (z k 1), .int .i64 (z k 2), .int .i64 (z k 3), .int .i64 (z k 4), .int .i64 (z k 5)] 23)).heap.size = wr.heap.size + 1 := by simp
      have hlts := hP.lt
      have hltr := Lib.hid hP.r.lts
      by_cases hx0 : z k 0 = 0
      · have hx0' : (z k 0 == 0) = true := by simp [hx0]
        have HX := Lib.hid hx0
        clear hx0
        go_wp2_with fail
        generalize wr.alloc (.cells #[.int .i64 (z k 0), .int .i64 (z k 1), .int .i64 (z k 2), .int .i64 (z k 3), .int .i64 (z k 4), .int .i64 (z k 5)] 23) = W1 at *
        have HZS := Lib.hid hzs
        clear hzs hP hB e0 e1 e2 e3 e4 e5 hc hb1
        have hPd := hP1.below (Below.refl _ _).drew
        have kxd := kx.drew
        have c1 := kxd.cell 1
        have c2 := kxd.cell 2
        simp at c1 c2
        go_region_held3 (fun w' => w'.cell? ⟨wr.heap.size, 1, none⟩ = some (.int .i64 (z k 1)) ∧ w'.cell? ⟨wr.heap.size, 2, none⟩ = some (.int .i64 (z k 2))) (go_keep)
          (first
            | (go_at_call 22; refine (add_st p b s n C v _ _ _ hz1.1 hz1.2 hPd.f).mono ?_; rintro e wa ⟨rfl, hSa, hTa⟩; have kxa := kxd.turns hTa (fun h => by rcases hlts with h1 | h1 <;> simp_all); have hRa := hPd.r.turns hTa (fun h => hP1.d1 h.1) (fun h => hP1.d2 h.1); have c1' := kxa.cell 1; have c2' := kxa.cell 2; simp at c1' c2')
            | (go_at_call 23; refine (radd_st q rb rs n C v _ _ _ hz1.1 hz1.2 hRa).mono ?_; rintro e wb ⟨rfl, hRb, hTb⟩; have kxb := kxa.turns hTb (fun h => by have := hltr.out h.2.1 h.2.2; have := h.1; omega); have c1'' := kxb.cell 1; have c2'' := kxb.cell 2; simp at c1'' c2''))
        have hsz1 := hTa.size
        have hSb := hSa.turns hTb (fun h => hP1.d3 h.1) (fun h => hP1.d2 h.1.symm) (fun h k hk => by have := hk.2.1; rw [h] at this; cases this)
        have hPb : Pair wb w.heap.size p q n (addNew v C n (z k 1) (z k 2)) v b s rb rs := ⟨hSb, hRb, hP1.d1, hP1.d2, hP1.d3, hP1.Bs, hP1.Brs, hP1.lt.imp (fun h => Nat.lt_of_lt_of_le h (Nat.le_trans hTa.size hTb.size)) id⟩
        have hBb : Below w.heap.size w wb := below_turns (below_turns hB1.drew hB1.size hTa (fun k hk h => by have := hP1.Bs; omega)) (Nat.le_trans hB1.size hTa.size) hTb (fun k hk h => by have := hP1.Brs; omega)
        have x0 := kxb.cell 0
        have x1 := kxb.cell 1
        have x2 := kxb.cell 2
        have x3 := kxb.cell 3
        have x4 := kxb.cell 4
        have x5 := kxb.cell 5
        simp at x0 x1 x2 x3 x4 x5
        go_wp2_with (go_at_call 14; refine (agree_ok _ _ b s rb rs n _ _ _ _ _ _ _ hz5 _ hPb.f.ef hPb.r.er).mono ?_; rintro e wz ⟨rfl, hbz⟩)
        go_roundw
        case rel => exact ⟨k + 1, _, _, _, b, s, rb, rs, by go_num, by omega, rfl, rfl, hPb.below hbz, below_go hBb (Nat.le_refl _) hbz⟩
        case measure => simp [intOf]; omega
      · have hx0' : (z k 0 == 0) = false := by simp [hx0]
        by_cases hx1 : z k 0 = 1
        · have hx1' : (z k 0 == 1) = true := by simp [hx1]
          clear hx0 hx1
          go_wp2_with fail
          generalize wr.alloc (.cells #[.int .i64 (z k 0), .int .i64 (z k 1), .int .i64 (z k 2), .int .i64 (z k 3), .int .i64 (z k 4), .int .i64 (z k 5)] 23) = W1 at *
          have HZS := Lib.hid hzs
          clear hzs hP hB e0 e1 e2 e3 e4 e5 hc hb1
          refine (copy_st p b s n C v _ hP1.f).mono ?_
          rintro e wa ⟨p', b', s', rfl, hSa, h1, h2, h3, hba⟩
          go_wp2_with fail
          refine (rcopy_st q rb rs n C v _ (hP1.r.below hba)).mono ?_
          rintro e wb ⟨q', rb', rs', rfl, hRb, h4, h5, hbb⟩
          obtain ⟨b2, s2, rb2, rs2, hPc⟩ := pair_mk (B := w.heap.size) (H := wa.heap.size) (hSa.below hbb) hRb h3 ⟨h4, h5⟩ (Nat.le_trans hB1.size h2) (Nat.le_trans hB1.size hba.size)
          have hBc := below_go (below_go hB1 (Nat.le_refl _) hba) (Nat.le_refl _) hbb
          have kxc := (kx.below hba kx.lt).below hbb (Nat.lt_of_lt_of_le kx.lt hba.size)
          have x0 := kxc.cell 0
          have x1 := kxc.cell 1
          have x2 := kxc.cell 2
          have x3 := kxc.cell 3
          have x4 := kxc.cell 4
          have x5 := kxc.cell 5
          simp at x0 x1 x2 x3 x4 x5
          go_wp2_with (go_at_call 14; refine (agree_ok _ _ b2 s2 rb2 rs2 n _ _ _ _ _ _ _ hz5 _ hPc.f.ef hPc.r.er).mono ?_; rintro e wz ⟨rfl, hbz⟩)
          go_roundw
          case rel => exact ⟨k + 1, _, _, _, b2, s2, rb2, rs2, by go_num, by omega, rfl, rfl, hPc.below hbz, below_go hBc (Nat.le_refl _) hbz⟩
          case measure => simp [intOf]; omega
        · have hx1' : (z k 0 == 1) = false := by simp [hx1]
          clear hx0 hx1
          have x0 := kx.cell 0
          have x1 := kx.cell 1
          have x2 := kx.cell 2
          have x3 := kx.cell 3
          have x4 := kx.cell 4
          have x5 := kx.cell 5
          simp at x0 x1 x2 x3 x4 x5
          go_wp2_with (go_at_call 14; refine (agree_ok _ _ b s rb rs n _ _ _ _ _ _ _ hz5 _ hP1.f.ef hP1.r.er).mono ?_; rintro e wz ⟨rfl, hbz⟩)
          go_roundw
          case rel => exact ⟨k + 1, _, _, _, b, s, rb, rs, by go_num, by omega, rfl, rfl, hP1.below hbz, below_go hB1 (Nat.le_refl _) hbz⟩
          case measure => simp [intOf]; omega
    · go_wp2_with (go_at_call 15; refine (works_ok _).mono ?_; rintro e w1 ⟨rfl, hb1⟩)
      go_ret
      exact ⟨rfl, below_go hB (Nat.le_refl _) hb1⟩

end Go.Proofs.Ytjikfmacdacgaaa
