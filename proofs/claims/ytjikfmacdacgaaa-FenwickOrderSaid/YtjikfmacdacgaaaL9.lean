/-
  The walk of FenwickOrder.
-/
import Derived.Test.YtjikfmacdacgaaaL8
import Derived.Test.YtjikfmacdacgaaaL6
import Derived.Deep.DeepCutAuto
import Derived.Deep.RegionHeld3
set_option linter.unusedVariables false
set_option linter.unusedSimpArgs false
namespace Go.Proofs.Ytjikfmacdacgaaa
open Go.RowKit Go.Shelf Fw

/-- the counter that addition t goes to -/
def ordI (z : Nat → Nat → Int) (M t : Nat) : Nat := (z t 0 % (M : Int)).toNat
/-- what addition t adds to counter j in the first loop -/
def ordV (z : Nat → Nat → Int) (M j t : Nat) : Int := if 0 < z t 1 then (if j = ordI z M t then z t 1 else 0) else 0
def ordA (z : Nat → Nat → Int) (M k : Nat) : Nat → Int := fun j => pre (ordV z M j) k
def ordB (z : Nat → Nat → Int) (M n k : Nat) : Nat → Int := fun j => pre (ordV z M j) n - pre (ordV z M j) (n - k)
theorem ordA_0 (z M) : ordA z M 0 = fun _ => 0 := rfl
theorem ordB_0 (z M n) : ordB z M n 0 = fun _ => 0 := by funext j; unfold ordB; simp
theorem ordB_n (z M n) : ordB z M n n = ordA z M n := by funext j; unfold ordB ordA; simp [pre]
theorem ordA_pos {z : Nat → Nat → Int} {k : Nat} (M : Nat) (h : 0 < z k 1) : upd (ordA z M k) (ordI z M k) (z k 1) = ordA z M (k + 1) := by
  funext j
  show (if j = ordI z M k then ordA z M k j + z k 1 else ordA z M k j) = pre (ordV z M j) k + ordV z M j k
  unfold ordV; rw [if_pos h]
  split
  · rfl
  · rw [Int.add_zero]; rfl
theorem ordA_neg {z : Nat → Nat → Int} {k : Nat} (M : Nat) (h : ¬ 0 < z k 1) : ordA z M k = ordA z M (k + 1) := by
  funext j
  show ordA z M k j = pre (ordV z M j) k + ordV z M j k
  unfold ordV; rw [if_neg h, Int.add_zero]; rfl
theorem ordB_step {z : Nat → Nat → Int} {n k q : Nat} (M j : Nat) (h : q + k + 1 = n) : ordB z M n (k + 1) j = ordB z M n k j + ordV z M j q := by
  unfold ordB
  rw [show n - k = q + 1 by omega, show n - (k + 1) = q by omega]
  show pre (ordV z M j) n - pre (ordV z M j) q = pre (ordV z M j) n - (pre (ordV z M j) q + ordV z M j q) + ordV z M j q
  omega
theorem ordB_pos {z : Nat → Nat → Int} {n k q : Nat} (M : Nat) (hq : q + k + 1 = n) (h : 0 < z q 1) : upd (ordB z M n k) (ordI z M q) (z q 1) = ordB z M n (k + 1) := by
  funext j
  rw [ordB_step M j hq]
  show (if j = ordI z M q then ordB z M n k j + z q 1 else ordB z M n k j) = _
  unfold ordV; rw [if_pos h]
  split
  · rfl
  · rw [Int.add_zero]
theorem ordB_neg {z : Nat → Nat → Int} {n k q : Nat} (M : Nat) (hq : q + k + 1 = n) (h : ¬ 0 < z q 1) : ordB z M n k = ordB z M n (k + 1) := by
  funext j
  rw [ordB_step M j hq]
  unfold ordV; rw [if_neg h, Int.add_zero]
theorem ordV_nn (z M j t) : 0 ≤ ordV z M j t := by unfold ordV; split <;> (try split) <;> omega
theorem ordV_le {z : Nat → Nat → Int} {t : Nat} (M j : Nat) (h : z t 1 ≤ 32767) : ordV z M j t ≤ 32767 := by unfold ordV; split <;> (try split) <;> omega
theorem ord_big {z : Nat → Nat → Int} {n : Nat} (M j k : Nat) (hn : n ≤ 300) (h : ∀ t, t < n → z t 1 ≤ 32767) (hk : k ≤ n) : 0 ≤ pre (ordV z M j) k ∧ pre (ordV z M j) k ≤ 300 * 32767 := by
  have h1 := pre_bound (C := ordV z M j) (m := 32767) k (fun t ht => ordV_le M j (h t (by omega)))
  have h2 : ∀ k, 0 ≤ pre (ordV z M j) k := fun k => by
    induction k with
    | zero => exact Int.le_refl _
    | succ k ih => have := ordV_nn z M j k; show 0 ≤ pre (ordV z M j) k + ordV z M j k; omega
  exact ⟨h2 k, by omega⟩
theorem ordA_pre {z : Nat → Nat → Int} {n : Nat} (M k : Nat) (hM : M ≤ 50) (hn : n ≤ 300) (h : ∀ t, t < n → z t 1 ≤ 32767) (hk : k ≤ n) : pre (ordA z M k) M ≤ 50 * (300 * 32767) := by
  have h1 := pre_bound (C := ordA z M k) (m := 300 * 32767) M (fun j _ => (ord_big M j k hn h hk).2)
  omega
theorem ordB_pre {z : Nat → Nat → Int} {n : Nat} (M k : Nat) (hM : M ≤ 50) (hn : n ≤ 300) (h : ∀ t, t < n → z t 1 ≤ 32767) (hk : k ≤ n) : pre (ordB z M n k) M ≤ 50 * (300 * 32767) := by
  have h1 := pre_bound (C := ordB z M n k) (m := 300 * 32767) M (fun j _ => by
    have a := ord_big M j n hn h (Nat.le_refl _)
    have b := ord_big M j (n - k) hn h (by omega)
    show pre (ordV z M j) n - pre (ordV z M j) (n - k) ≤ _
    omega)
  omega
theorem ordI_lt (z : Nat → Nat → Int) {M : Nat} (t : Nat) (hM : 0 < M) : ordI z M t < M := by
  unfold ordI
  have := Int.emod_nonneg (z t 0) (show (M : Int) ≠ 0 by omega)
  have := Int.emod_lt_of_pos (z t 0) (show (0 : Int) < (M : Int) by omega)
  omega
theorem ordI_eq {z : Nat → Nat → Int} {M t : Nat} (hM : 0 < M) : z t 0 % (M : Int) = (ordI z M t : Int) := by
  unfold ordI
  have := Int.emod_nonneg (z t 0) (show (M : Int) ≠ 0 by omega)
  omega
theorem ordI_tmod {z : Nat → Nat → Int} {M t : Nat} (hM : 0 < M) (h : 0 ≤ z t 0) : (z t 0).tmod (M : Int) = (ordI z M t : Int) := by
  rw [Int.tmod_eq_emod_of_nonneg h]; exact ordI_eq hM

abbrev ks2 : List IntKind := [.u8, .i16]
theorem part_cells {w : World} {g o i : Nat} {z : Nat → Nat → Int} {n : Nat} (h : ∀ i, i < n → ∀ j k, ks2[j]? = some k → w.cell? ⟨g, o + (i * 2 + j), none⟩ = some (.int k (z i j))) (hi : i < n) :
    w.cell? ⟨g, o + i * 2, none⟩ = some (.int .u8 (z i 0)) ∧ w.cell? ⟨g, o + i * 2 + 1, none⟩ = some (.int .i16 (z i 1)) := by
  have h0 := h i hi
  exact ⟨h0 0 _ rfl, h0 1 _ rfl⟩
theorem run_make47 (n : Nat) (hn : n ≤ 100000) (w : World) :
    (Instr.makeSlice 47 (.int .i64 (n : Int)) (.int .i64 (n : Int))).run Try.prog w = .ok (.slice (some ⟨w.heap.size, 0, none⟩) n n) (w.alloc (.cells (zerosK .i64 n) 2)) := by
  obtain ⟨i0, hi, hz0, hz1, hz2⟩ := info_parts info2
  have hr := Go.run_make (P := Try.prog) w 47 2 i0 (.int .i64 0) Try.underlying47 hi hz0 .i64 .i64 n n (by omega) (by omega) (by rw [hz2]; omega) (by omega)
  simp only [Int.toNat_natCast] at hr
  rw [hr, hz1, Nat.mul_one]
  rfl

set_option maxRecDepth 100000 in
set_option maxHeartbeats 8000000 in
theorem order_walk (x : Int) (n c : Nat) (A : Option Addr) (z : Nat → Nat → Int) (hx : 0 ≤ x ∧ x ≤ 255) (w : World) (ha : ArgS ks2 w A n c z) :
    Calls Try.prog 7 #[.int .u8 x, .slice A n c] w fun e w' => e = .returned (.bool true) ∧ Below w.heap.size w w' := by
  have hnc := ha.1
  have hn63 := ha.2.1
  by_cases hbig : 300 < n
  · go_enter Try.func7, Try.ntmps7
    go_wp2_with (go_at_call 15; refine (works_ok _).mono ?_; rintro e w1 ⟨rfl, hb1⟩)
    go_ret
    exact ⟨rfl, hb1⟩
  have hbig' : decide (300 < (n : Int)) = false := by simp; omega
  obtain ⟨M, hM⟩ : ∃ M : Nat, 1 + x % 50 = (M : Int) := ⟨(1 + x % 50).toNat, by omega⟩
  have hM0 : 1 ≤ M := by omega
  have hM1 : M ≤ 50 := by omega
  have hz0 : ∀ t, t < n → 0 ≤ z t 0 ∧ z t 0 ≤ 255 := fun t ht => wf_u8 (ha.2.2.2 t ht 0 _ rfl)
  have hz1 : ∀ t, t < n → -32768 ≤ z t 1 ∧ z t 1 ≤ 32767 := fun t ht => wf_i16 (ha.2.2.2 t ht 1 _ rfl)
  have HZ0 := Lib.hid hz0
  have HZ1 := Lib.hid hz1
  clear hz0 hz1
  have hmk := fun W => run_make47 M (by omega) W
  go_enter Try.func7, Try.ntmps7
  go_wp2_with fail
  refine (new_ok M _ (by omega)).mono ?_
  rintro e w1 ⟨b, s, rfl, hf, hb, hs, hv⟩
  go_wp2_with fail
  refine (new_ok M _ (by omega)).mono ?_
  rintro e w2 ⟨b', s', rfl, hf', hb', hs', hv1⟩
  have hl1 := hf.fw.lt
  have hl2 := hf'.fw.lt
  have hc2 := hf.below hv1
  have hv2 := below_go hv (Nat.le_refl _) hv1
  have hs0 := hv.size
  have hs1 := hv1.size
  have hb3 := below_new1 w2 (.cells (zerosK .i64 M) 2)
  have hr3 := RowF.new .i64 w2 2 M
  have hc3 := hc2.below hb3
  have hd3 := hf'.below hb3
  have hv3 := below_go hv2 (Nat.le_refl _) hb3
  clear hf hf' hv hv1 hc2 hv2 hb3
  go_wp2_with fail
  generalize w2.alloc (.cells (zerosK .i64 M) 2) = W3 at *
  clear hmk
  go_loopw [11] (fun vk wr => ∃ k : Nat, vk = .int .i64 k ∧ k ≤ n ∧ FC wr b s M (ordA z M k) ∧ FC wr b' s' M (ordB z M n k) ∧ RowF .i64 wr w2.heap.size 2 M (ordA z M k) ∧ Below w.heap.size w wr) (fun vk _ => n - (intOf vk).toNat)
  case atStart => exact ⟨0, rfl, Nat.zero_le _, hc3, by rw [ordB_0]; exact hd3, hr3, hv3⟩
  case round =>
    clear hc3 hd3 hr3 hv3
    obtain ⟨k, rfl, hk, hc, hd, hr, hv⟩ := hrel
    by_cases hlt : k < n
    · obtain ⟨q, hq⟩ : ∃ q : Nat, q + k + 1 = n := ⟨n - 1 - k, by omega⟩
      have hqn : q < n := by omega
      obtain ⟨g, o, rfl, hg, hcs⟩ := (ha.below hv).2.2.1 (by omega)
      obtain ⟨e0, e1⟩ := part_cells hcs hlt
      obtain ⟨f0, f1⟩ := part_cells hcs hqn
      have i0 := HZ0.out k hlt
      have i1 := HZ1.out k hlt
      have j0 := HZ0.out q hqn
      have j1 := HZ1.out q hqn
      clear hcs
      have t0 : (0 : Int) ≤ (k : Int) := by omega
      have t1 : (k : Int) < (n : Int) := by omega
      have t2 : (0 : Int) ≤ (q : Int) := by omega
      have t3 : (q : Int) < (n : Int) := by omega
      have n1 : IntKind.i64.wrap ((n : Int) - 1) = (n : Int) - 1 := by rw [IntKind.wrap_i64]; omega
      have n2 : IntKind.i64.wrap ((n : Int) - 1 - (k : Int)) = (q : Int) := by rw [IntKind.wrap_i64]; omega
      have hk1 : wr.heap.size ≤ wr.heap.size + 1 := by omega
      have bb2 := below_new2 wr (.cells #[.int .u8 (z k 0), .int .i16 (z k 1)] 50) (.cells #[.int .u8 (z q 0), .int .i16 (z q 1)] 50)
      have bb3 := below_new2 wr (.cells #[.int .u8 (z q 0), .int .i16 (z q 1)] 50) (.cells #[.int .u8 (z k 0), .int .i16 (z k 1)] 50)
      go_upto_region 12 with fail
      go_cut [12, 13] (fun sx sy wx => ∃ p1 p2 : Nat, sx = .pointer (some ⟨p1, 0, none⟩) ∧ sy = .pointer (some ⟨p2, 0, none⟩) ∧ wr.heap.size ≤ p1 ∧ wr.heap.size ≤ p2 ∧ Blk wx p1 50 #[.int .u8 (z k 0), .int .i16 (z k 1)] ∧ Blk wx p2 50 #[.int .u8 (z q 0), .int .i16 (z q 1)] ∧ Below wr.heap.size wr wx)
      case first =>
        go_region
        all_goals (go_wp2_with fail; go_meet)
        · exact ⟨_, _, rfl, rfl, Nat.le_refl _, hk1, ((Blk.new wr 50 _).alloc _).drew, (Blk.new2 wr _ 50 _).drew, bb2.drew⟩
        · exact ⟨_, _, rfl, rfl, hk1, Nat.le_refl _, (Blk.new2 wr _ 50 _).drew, ((Blk.new wr 50 _).alloc _).drew, bb3.drew⟩
      case rest =>
        obtain ⟨p1, p2, rfl, rfl, hp1, hp2, kx, ky, hbx⟩ := hcut
        have hc1 := hc.below hbx
        have hd1 := hd.below hbx
        have hr1 := hr.below' hbx
        have hv1 := below_go hv (Nat.le_refl _) hbx
        have hlc := hc.fw.lt
        have hld := hd.fw.lt
        have hlr := hr.lt
        have hw0 := hv.size
        have hIk := ordI_lt z k hM0
        have hIq := ordI_lt z q hM0
        have hPA := ordA_pre (z := z) (n := n) M k hM1 (by omega) (fun t ht => (HZ1.out t ht).2) hk
        have hPB := ordB_pre (z := z) (n := n) M k hM1 (by omega) (fun t ht => (HZ1.out t ht).2) hk
        have hnA := hc.good.nn _ hIk
        have hnB := hd.good.nn _ hIq
        have hbA : ordA z M k (ordI z M k) ≤ 300 * 32767 := (ord_big M (ordI z M k) k (by omega) (fun t ht => (HZ1.out t ht).2) hk).2
        clear hc hd hr hv hbx e0 e1 f0 f1 bb2 bb3 n1 n2
        have tm1 := ordI_tmod (z := z) (t := k) hM0 i0.1
        have tm2 := ordI_tmod (z := z) (t := q) hM0 j0.1
        have tz : ((M : Int) == 0) = false := by simp; omega
        have tz' : (M : Int) ≠ 0 := by omega
        have tz2 : (0 : Int) < (M : Int) := by omega
        have tz3 : M ≠ 0 := by omega
        have tz4 : (M == 0) = false := by simp; omega
        have u0 : (0 : Int) ≤ (ordI z M k : Int) := by omega
        have u1 : (ordI z M k : Int) < (M : Int) := by omega
        have wr0 : IntKind.i64.wrap (ordI z M k : Int) = (ordI z M k : Int) := by rw [IntKind.wrap_i64]; omega
        have wr1 : IntKind.i64.wrap (ordI z M q : Int) = (ordI z M q : Int) := by rw [IntKind.wrap_i64]; omega
        have wp0 : IntKind.i64.wrap (z k 0) = z k 0 := by rw [IntKind.wrap_i64]; omega
        have wp1 : IntKind.i64.wrap (z k 1) = z k 1 := by rw [IntKind.wrap_i64]; omega
        have wp2 : IntKind.i64.wrap (z q 0) = z q 0 := by rw [IntKind.wrap_i64]; omega
        have wp3 : IntKind.i64.wrap (z q 1) = z q 1 := by rw [IntKind.wrap_i64]; omega
        have wp4 : IntKind.i64.wrap (ordA z M k (ordI z M k) + z k 1) = ordA z M k (ordI z M k) + z k 1 := by rw [IntKind.wrap_i64]; omega
        have x0 := kx.cell 0
        have x1 := kx.cell 1
        simp at x0 x1
        go_upto_if 72 with fail
        go_cut [] (fun wx => Blk wx p2 50 #[.int .u8 (z q 0), .int .i16 (z q 1)] ∧ FC wx b s M (ordA z M (k + 1)) ∧ FC wx b' s' M (ordB z M n k) ∧ RowF .i64 wx w2.heap.size 2 M (ordA z M (k + 1)) ∧ Below w.heap.size w wx)
        case first =>
          by_cases hpos : 0 < z k 1
          · have OA := Lib.hid (ordA_pos (k := k) M hpos)
            have hcd := hc1.below (Below.refl _ _).drew
            have hdd := hd1.below (Below.refl _ _).drew
            have hrd := hr1.drew
            have kxd := kx.drew
            have kyd := ky.drew
            have hvd := hv1.drew
            clear hc1 hd1 hr1 kx ky hv1
            go_wp2_with fail
            go_region_held3 (fun w' => w'.cell? ⟨p1, 0, none⟩ = some (.int .u8 (z k 0)) ∧ w'.cell? ⟨p1, 1, none⟩ = some (.int .i16 (z k 1))) (go_keep)
              ((go_at_call 22; refine (add_good b s M (ordA z M k) (ordI z M k) (z k 1) hIk (by omega) (by omega) (by omega) _ hcd).mono ?_; rintro e wa ⟨rfl, hca, hta⟩; have kxa := kxd.turns hta (fun h => by have h : p1 = s := h; omega); have a0 := kxa.cell 0; have a1 := kxa.cell 1; simp at a0 a1))
            have kya := kyd.turns hta (fun h => by have h : p2 = s := h; omega)
            have hda := hdd.turns hta (fun h => by have h : b' = s := h; omega) (fun h => by have h : s' = s := h; omega)
            have hra := hrd.turns hta (fun h => by have h : w2.heap.size = s := h; omega)
            have hva := below_turns hvd hvd.size hta (fun j hj h => by have h : j = s := h; omega)
            clear hcd hdd hrd kxd kyd hvd
            have r0 := hra.cell hIk
            have r1 := hra.frozen (ordI z M k)
            go_wp2_with fail
            go_region
            all_goals go_wp2_with fail
            go_meet
            have hT : Turns (· = w2.heap.size) wa (wa.setCell ⟨w2.heap.size, ordI z M k, none⟩ (.int .i64 (ordA z M k (ordI z M k) + z k 1))).drew := ((Turns.refl (· = w2.heap.size) wa).setCell (p := ⟨w2.heap.size, ordI z M k, none⟩) (.inr rfl) _).drew
            refine ⟨kya.turns hT (fun h => by have h : p2 = w2.heap.size := h; omega), by rw [← OA.out]; exact hca.turns hT (fun h => by have h : b = w2.heap.size := h; omega) (fun h => by have h : s = w2.heap.size := h; omega),
              hda.turns hT (fun h => by have h : b' = w2.heap.size := h; omega) (fun h => by have h : s' = w2.heap.size := h; omega), ?_, below_turns hva hva.size hT (fun j hj h => by have h : j = w2.heap.size := h; omega)⟩
            rw [← OA.out]
            refine ((hra.set_ _ _).drew).congr (fun j _ => ?_)
            show (if j = ordI z M k then ordA z M k (ordI z M k) + z k 1 else ordA z M k j) = (if j = ordI z M k then ordA z M k j + z k 1 else ordA z M k j)
            split
            · rename_i e; rw [e]
            · rfl
          · have OA := Lib.hid (ordA_neg (k := k) M hpos)
            rw [OA.out] at hc1 hr1
            go_wp2_with fail
            go_meet
            exact ⟨ky, hc1, hd1, hr1, hv1⟩
        case rest =>
          clear hc1 hd1 hr1 hv1 kx ky x0 x1
          obtain ⟨ky, hc, hd, hr, hv⟩ := hcut
          have y0 := ky.cell 0
          have y1 := ky.cell 1
          simp at y0 y1
          by_cases hpos : 0 < z q 1
          · have OB := Lib.hid (ordB_pos (k := k) M hq hpos)
            have hcd := hc.below (Below.refl _ _).drew
            have hdd := hd.below (Below.refl _ _).drew
            have hrd := hr.drew
            have kyd := ky.drew
            have hvd := hv.drew
            clear hc hd hr ky hv
            go_wp2_with fail
            go_region_held3 (fun w' => w'.cell? ⟨p2, 0, none⟩ = some (.int .u8 (z q 0)) ∧ w'.cell? ⟨p2, 1, none⟩ = some (.int .i16 (z q 1))) (go_keep)
              ((go_at_call 22; refine (add_good b' s' M (ordB z M n k) (ordI z M q) (z q 1) hIq (by omega) (by omega) (by omega) _ hdd).mono ?_; rintro e wa ⟨rfl, hda, hta⟩; have kya := kyd.turns hta (fun h => by have h : p2 = s' := h; omega); have a0 := kya.cell 0; have a1 := kya.cell 1; simp at a0 a1))
            have hca := hcd.turns hta (fun h => by have h : b = s' := h; omega) (fun h => by have h : s = s' := h; omega)
            have hra := hrd.turns hta (fun h => by have h : w2.heap.size = s' := h; omega)
            have hva := below_turns hvd hvd.size hta (fun j hj h => by have h : j = s' := h; omega)
            clear hcd hdd hrd kyd hvd
            go_wp2_with fail
            go_roundw
            case rel => exact ⟨k + 1, by go_num, by omega, hca, by rw [← OB.out]; exact hda, hra, hva⟩
            case measure => simp [intOf]; omega
          · have OB := Lib.hid (ordB_neg (k := k) M hq hpos)
            rw [OB.out] at hd
            have hpos' : decide (0 < z q 1) = false := by simp; omega
            go_wp2_with fail
            go_quiet (fail)
            go_wp2_with fail
            go_roundw
            case rel => exact ⟨k + 1, by go_num, by omega, hc.below (below_drewN (Below.refl _ _) _), hd.below (below_drewN (Below.refl _ _) _), hr.drewN _, below_drewN hv _⟩
            case measure => simp [intOf]; omega
    · obtain rfl : k = n := by omega
      rw [ordB_n] at hd
      have hlc := hc.fw.lt
      have hld := hd.fw.lt
      have hlr := hr.lt
      generalize ordA z M k = C0 at *
      go_wp2_with fail
      go_loopw [14] (fun vk wr => ∃ (q : Nat) (C : Nat → Int), vk = .int .i64 q ∧ q ≤ k ∧ FC wr b s M C ∧ FC wr b' s' M C ∧ RowF .i64 wr w2.heap.size 2 M C ∧ Below w.heap.size w wr) (fun vk _ => k - (intOf vk).toNat)
      case atStart => exact ⟨0, C0, rfl, Nat.zero_le _, hc, hd, hr, hv⟩
      case round =>
        clear hc hd hr hv hlc hld hlr
        obtain ⟨q, C, rfl, hq, hc, hd, hr, hv⟩ := hrel
        by_cases hlq : q < k
        · obtain ⟨g, o, rfl, hg, hcs⟩ := (ha.below hv).2.2.1 (by omega)
          obtain ⟨e0, e1⟩ := part_cells hcs hlq
          have i0 := HZ0.out q hlq
          have i1 := HZ1.out q hlq
          clear hcs
          have t2 : (0 : Int) ≤ (q : Int) := by omega
          have t3 : (q : Int) < (k : Int) := by omega
          have tm1 := ordI_tmod (z := z) (t := q) hM0 i0.1
          have tz' : (M : Int) ≠ 0 := by omega
          have tz3 : M ≠ 0 := by omega
          have hIq := ordI_lt z q hM0
          have wp0 : IntKind.i64.wrap (z q 0) = z q 0 := by rw [IntKind.wrap_i64]; omega
          have wp1 : IntKind.i64.wrap (z q 1) = z q 1 := by rw [IntKind.wrap_i64]; omega
          have wr0 : IntKind.i64.wrap (ordI z M q : Int) = (ordI z M q : Int) := by rw [IntKind.wrap_i64]; omega
          have hlc := hc.fw.lt
          have hld := hd.fw.lt
          have hlr := hr.lt
          have hw0 := hv.size
          have hnn := hc.good.nn _ hIq
          have hbl := hc.good.le hIq
          have htt := hc.good.tot
          go_wp2_with fail
          go_quiet (fail)
          clear tm1 wp0 wp1 wr0 e0 e1
          have hc := hc.below (below_drewN (Below.refl _ _) nq)
          have hd := hd.below (below_drewN (Below.refl _ _) nq)
          have hr := hr.drewN nq
          have hv := below_drewN hv nq
          have r0 := hr.cell hIq
          have r1 := hr.frozen (ordI z M q)
          have u0 : (0 : Int) ≤ (ordI z M q : Int) := by omega
          have u1 : (ordI z M q : Int) < (M : Int) := by omega
          by_cases hge : 0 ≤ z q 1
          · go_wp2_with fail
            go_roundw
            case rel => exact ⟨q + 1, C, by go_num, by omega, hc, hd, hr, hv⟩
            case measure => simp [intOf]; omega
          · by_cases hlow : C (ordI z M q) + z q 1 < 0
            · go_wp2_with (first
                | (go_at_call 22; refine (add_neg b' s' M C (ordI z M q) (z q 1) hIq (by omega) hlow _ hd1).mono ?_; rintro e wb ⟨rfl, hbb⟩)
                | (go_at_call 22; refine (add_neg b s M C (ordI z M q) (z q 1) hIq (by omega) hlow _ hc).mono ?_; rintro e wa ⟨rfl, hba⟩; have hd1 := hd.below hba))
              have hB := below_go hv (Nat.le_refl _) hba
              go_roundw
              case rel => exact ⟨q + 1, C, by go_num, by omega, (hc.below hba).below hbb, hd1.below hbb, (hr.below' hba).below' hbb, below_go hB (Nat.le_trans hv.size hba.size |> fun _ => Nat.le_refl _) hbb⟩
              case measure => simp [intOf]; omega
            · go_wp2_with (first
                | (go_at_call 22; refine (add_good b' s' M C (ordI z M q) (z q 1) hIq (by omega) (by omega) (by omega) _ hd1).mono ?_; rintro e wb ⟨rfl, hdb, htb⟩)
                | (go_at_call 22; refine (add_good b s M C (ordI z M q) (z q 1) hIq (by omega) (by omega) (by omega) _ (hc.turns ((Turns.refl (· = w2.heap.size) _).setCell (p := ⟨w2.heap.size, ordI z M q, none⟩) (.inr rfl) _) (fun h => by have h : b = w2.heap.size := h; omega) (fun h => by have h : s = w2.heap.size := h; omega))).mono ?_; rintro e wa ⟨rfl, hca, hta⟩; have hd1 := (hd.turns ((Turns.refl (· = w2.heap.size) _).setCell (p := ⟨w2.heap.size, ordI z M q, none⟩) (.inr rfl) (.int .i64 (C (ordI z M q) + z q 1))) (fun h => by have h : b' = w2.heap.size := h; omega) (fun h => by have h : s' = w2.heap.size := h; omega)).turns hta (fun h => by have h : b' = s := h; omega) (fun h => by have h : s' = s := h; omega)))
              have hrs := (hr.set_ (ordI z M q) (C (ordI z M q) + z q 1)).congr (f' := upd C (ordI z M q) (z q 1)) (fun j _ => by
                show (if j = ordI z M q then C (ordI z M q) + z q 1 else C j) = (if j = ordI z M q then C j + z q 1 else C j)
                split
                · rename_i e; rw [e]
                · rfl)
              have hrb := (hrs.turns hta (fun h => by have h : w2.heap.size = s := h; omega)).turns htb (fun h => by have h : w2.heap.size = s' := h; omega)
              have hcb := hca.turns htb (fun h => by have h : b = s' := h; omega) (fun h => by have h : s = s' := h; omega)
              have hvs := hv.setCell (p := ⟨w2.heap.size, ordI z M q, none⟩) (by show w.heap.size ≤ w2.heap.size; omega) (.int .i64 (C (ordI z M q) + z q 1))
              have hva := below_turns hvs hvs.size hta (fun j hj h => by have h : j = s := h; omega)
              have hvb := below_turns hva hva.size htb (fun j hj h => by have h : j = s' := h; omega)
              go_roundw
              case rel => exact ⟨q + 1, _, by go_num, by omega, hcb, hdb, hrb, hvb⟩
              case measure => simp [intOf]; omega
        · obtain rfl : q = k := by omega
          go_wp2_with fail
          go_loopw [17] (fun vk wr => ∃ i : Nat, vk = .int .i64 i ∧ i ≤ M ∧ FC wr b s M C ∧ FC wr b' s' M C ∧ RowF .i64 wr w2.heap.size 2 M C ∧ Below w.heap.size w wr) (fun vk _ => M - (intOf vk).toNat)
          case atStart => exact ⟨0, rfl, Nat.zero_le _, hc, hd, hr, hv⟩
          case round =>
            clear hc hd hr hv
            obtain ⟨i, rfl, hi, hc, hd, hr, hv⟩ := hrel
            by_cases hlt : i < M
            · have E1 := Lib.hid (getV_at (C := C) hlt)
              have hrd := hr.drew
              have hcd := hc.below (Below.refl _ _).drew
              have hdd := hd.below (Below.refl _ _).drew
              have hvd := hv.drew
              have r0 := hrd.cell hlt
              have t2 : (0 : Int) ≤ (i : Int) := by omega
              have t3 : (i : Int) < (M : Int) := by omega
              clear hc hd hr hv
              go_wp2_with fail
              go_region_held3 (fun w' => w'.cell? ⟨w2.heap.size, i, none⟩ = some (.int .i64 (C i))) (go_keep)
                (first
                  | (go_at_call 17; refine (prefix_all _ b' s' M C _ _ (.inl ⟨rfl, hd3⟩)).mono ?_; rintro e w6 ⟨rfl, hb6⟩; have hd4 := hd3.below hb6; have hc4 := hc3.below hb6; have hr4 := hr3.below' hb6; have hv4 := below_go hv3 (Nat.le_refl _) hb6; have c4 := hr4.cell hlt)
                  | (go_at_call 17; refine (prefix_all _ b s M C _ _ (.inl ⟨rfl, hc2⟩)).mono ?_; rintro e w5 ⟨rfl, hb5⟩; have hd3 := hd2.below hb5; have hc3 := hc2.below hb5; have hr3 := hr2.below' hb5; have hv3 := below_go hv2 (Nat.le_refl _) hb5; have c3 := hr3.cell hlt)
                  | (go_at_call 18; refine (get_any _ b' s' M C _ _ (.inl ⟨rfl, hd1⟩)).mono ?_; rw [E1.out]; rintro e w4 ⟨rfl, hb4⟩; have hd2 := hd1.below hb4; have hc2 := hc1.below hb4; have hr2 := hr1.below' hb4; have hv2 := below_go hv1 (Nat.le_refl _) hb4; have c2 := hr2.cell hlt)
                  | (go_at_call 18; refine (get_any _ b s M C _ _ (.inl ⟨rfl, hcd⟩)).mono ?_; rw [E1.out]; rintro e w3 ⟨rfl, hb3⟩; have hd1 := hdd.below hb3; have hc1 := hcd.below hb3; have hr1 := hrd.below' hb3; have hv1 := below_go hvd (Nat.le_refl _) hb3; have c1 := hr1.cell hlt))
              go_wp2_with fail
              go_roundw
              case rel => exact ⟨i + 1, by go_num, by omega, hc4, hd4, hr4, hv4⟩
              case measure => simp [intOf]; omega
            · go_wp2_with (first
                | (go_at_call 15; refine (works_ok _).mono ?_; rintro e wz ⟨rfl, hbz⟩)
                | (go_at_call 19; refine (total_any _ b' s' M C _ (.inl ⟨rfl, hd2⟩)).mono ?_; rintro e wy ⟨rfl, hby⟩; have hv3 := below_go hv2 (Nat.le_refl _) hby)
                | (go_at_call 19; refine (total_any _ b s M C _ (.inl ⟨rfl, hc⟩)).mono ?_; rintro e wx ⟨rfl, hbx⟩; have hd2 := hd.below hbx; have hv2 := below_go hv (Nat.le_refl _) hbx))
              go_ret
              exact ⟨rfl, below_go hv3 (Nat.le_refl _) hbz⟩

end Go.Proofs.Ytjikfmacdacgaaa
