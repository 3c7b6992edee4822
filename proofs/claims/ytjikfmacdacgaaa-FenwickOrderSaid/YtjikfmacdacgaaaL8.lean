/-
  The walk of FenwickCopies.
-/
import Derived.Test.YtjikfmacdacgaaaL7
set_option linter.unusedVariables false
set_option linter.unusedSimpArgs false
namespace Go.Proofs.Ytjikfmacdacgaaa
open Go.RowKit Go.Shelf Fw

theorem getV_at {C : Nat → Int} {n k : Nat} (hk : k < n) : getV C n (k : Int) = C k := by
  unfold getV; rw [if_pos ⟨by omega, by omega⟩]; rfl
theorem getV_upd {C : Nat → Int} {n k : Nat} (hk : k < n) (d : Int) : getV (upd C k d) n (k : Int) = C k + d := by
  rw [getV_at hk]; simp [upd]
theorem preV_at {C : Nat → Int} {n k : Nat} (hk : k ≤ n) : preV C n (k : Int) = pre C k := by unfold preV; rw [clip_nat hk]
theorem preV_at1 {C : Nat → Int} {n k : Nat} (hk : k < n) : preV C n ((k : Int) + 1) = pre C k + C k := preV_at (k := k + 1) hk

set_option maxRecDepth 100000 in
set_option maxHeartbeats 8000000 in
theorem copies_walk (n c : Nat) (A : Option Addr) (z : Nat → Int) (i d : Int) (hi : 0 ≤ i ∧ i ≤ 65535) (hd : 0 ≤ d ∧ d ≤ 65535) (w : World) (ha : ArgI .u16 w A n c z) :
    Calls Try.prog 11 #[.slice A n c, .int .u16 i, .int .u16 d] w fun e w' => e = .returned (.bool true) ∧ Below w.heap.size w w' := by
  have hnc := ha.1
  have hn63 := ha.2.1
  by_cases hbig : 300 < n
  · go_enter Try.func11, Try.ntmps11
    go_wp2_with (go_at_call 15; refine (works_ok _).mono ?_; rintro e w1 ⟨rfl, hb1⟩)
    go_ret
    exact ⟨rfl, hb1⟩
  have hbig' : decide (300 < (n : Int)) = false := by simp; omega
  by_cases hz0 : n = 0
  · subst hz0
    go_enter Try.func11, Try.ntmps11
    go_wp2_with (go_at_call 15; refine (works_ok _).mono ?_; rintro e w1 ⟨rfl, hb1⟩)
    go_ret
    exact ⟨rfl, hb1⟩
  have hz0' : ((n : Int) == 0) = false := by simp; omega
  have hz : ∀ j, j < n → 0 ≤ z j ∧ z j ≤ 65535 := fun j hj => wf_u16 (ha.2.2.2 j hj)
  have HG := Lib.hid (small_good (by omega) hz)
  have hkk0 := Int.emod_nonneg i (show (n : Int) ≠ 0 by omega)
  have hkk1 := Int.emod_lt_of_pos i (show (0 : Int) < n by omega)
  obtain ⟨k, hk⟩ := Int.eq_ofNat_of_zero_le hkk0
  have hkn : k < n := by omega
  have hzk := hz k hkn
  have hpz : pre z n ≤ 300 * 65535 := by
    have := pre_bound (C := z) (m := 65535) n (fun j hj => (hz j hj).2); omega
  have HPU := Lib.hid (show pre (upd z k d) n = pre z n + d by rw [pre_upd, if_pos (by omega)])
  have HPD := Lib.hid (show pre (upd z k (-(z k))) n = pre z n - z k by rw [pre_upd, if_pos (by omega)]; omega)
  have hpz0 := HG.out.pre_nn (Nat.le_refl n)
  have HK := Lib.hid hk
  have HN := Lib.hid hbig
  have hn0 : (n : Int) ≠ 0 := by omega
  have E1 := Lib.hid (getV_at (C := z) hkn)
  have E2 := Lib.hid (getV_upd (C := z) hkn d)
  have E3 := Lib.hid (getV_upd (C := z) hkn (-(z k)))
  have E4 := Lib.hid (preV_at (C := upd z k d) (k := k) (Nat.le_of_lt hkn))
  have E5 := Lib.hid (preV_at1 (C := upd z k d) hkn)
  have E6 := Lib.hid (show upd z k d k = z k + d by simp [upd])
  have hpk0 : 0 ≤ pre (upd z k d) k := by
    rw [pre_upd, if_neg (by omega), Int.add_zero]; exact HG.out.pre_nn (Nat.le_of_lt hkn)
  have hpk1 : pre (upd z k d) k ≤ 300 * 65535 := by
    rw [pre_upd, if_neg (by omega), Int.add_zero]; exact Int.le_trans (pre_mono HG.out.nn k n (Nat.le_of_lt hkn) (Nat.le_refl _)) hpz
  clear hz hk
  have hlt0 : (k : Int) < (n : Int) := by omega
  have hlt1 : (0 : Int) ≤ (k : Int) := by omega
  go_enter Try.func11, Try.ntmps11
  go_wp2_with fail
  refine (filled_ok n c A z (by omega) _ ha).mono ?_
  rintro e w1 ⟨b, s, rfl, hf, hb, hs, hv⟩
  go_wp2_with fail
  refine (copy_ok b s n z _ hf).mono ?_
  rintro e w2 ⟨b', s', rfl, hx, hb', hs', hv1⟩
  have hlb := hf.fw.lt
  have hcf := hf.below hv1
  have hv2 := below_go hv (Nat.le_refl _) hv1
  have hsz := hv1.size
  have hsz0 := hv.size
  clear hf hv hv1
  go_wp2_with (first
    | (go_at_call 26; refine (len_ok b' s' n _ _ hx.fw hx.hn).mono ?_; rintro e wq ⟨rfl, rfl⟩)
    | (go_at_call 19; refine (total_any _ b' s' n z _ (.inl ⟨rfl, hx⟩)).mono ?_; rintro e wq ⟨rfl, hbq⟩; have hx3 := hx.below hbq; have hc3 := hcf.below hbq; have hv3 := below_go hv2 (Nat.le_refl _) hbq)
    | (go_at_call 19; refine (total_any _ b s n z _ (.inl ⟨rfl, hc3⟩)).mono ?_; rintro e wp ⟨rfl, hbp⟩; have hx4 := hx3.below hbp; have hc4 := hc3.below hbp; have hv4 := below_go hv3 (Nat.le_refl _) hbp))
  simp only [HK.out]
  clear hx hcf hv2 hx3 hc3 hv3
  obtain ⟨g, o, rfl, hg, hc⟩ := ha.2.2.1 (by omega)
  have hck0 := hc k hkn
  have hck := (hv4.cell (p := ⟨g, o + k, none⟩) hg).trans hck0
  have HC := Lib.hid hck0
  clear hck0
  clear hc
  have hcd : FC wp.drew b s n z := hc4.below (Below.refl _ _).drew
  have hxd : FC wp.drew b' s' n z := hx4.below (Below.refl _ _).drew
  have hvd := hv4.drew
  have hne1 : b ≠ s' := by have := hlb.1; omega
  have hne2 : s ≠ s' := by have := hlb.2; omega
  have hne4 : b' ≠ s := by have := hlb.2; omega
  have hne5 : s' ≠ s := by have := hlb.2; omega
  clear hc4 hx4 hv4
  have hwz : IntKind.i64.wrap (z k) = z k := by rw [IntKind.wrap_i64]; omega
  have hwd : IntKind.i64.wrap d = d := by rw [IntKind.wrap_i64]; omega
  have hwa : IntKind.i64.wrap (z k + d) = z k + d := by rw [IntKind.wrap_i64]; omega
  have hwp : IntKind.i64.wrap (pre z n + d) = pre z n + d := by rw [IntKind.wrap_i64]; omega
  go_region_held3 (fun w' => w'.cell? ⟨g, o + k, none⟩ = some (.int .u16 (z k))) (go_keep)
    (first
      | (go_at_call 19; refine (total_any _ b s n z _ (.inl ⟨rfl, hce⟩)).mono ?_; rintro e wf ⟨rfl, hbf⟩; have hcf := hce.below hbf; have hxf := hxe.below hbf; have hvf := below_go hve (Nat.le_refl _) hbf; have hckf := (hvf.cell (p := ⟨g, o + k, none⟩) hg).trans HC.out)
      | (go_at_call 19; refine (total_any _ b' s' n (upd z k d) _ (.inl ⟨rfl, hxc⟩)).mono ?_; rw [HPU.out]; rintro e we ⟨rfl, hbe⟩; have hce := hcc.below hbe; have hxe := hxc.below hbe; have hve := below_go hvc (Nat.le_refl _) hbe; have hcke := (hve.cell (p := ⟨g, o + k, none⟩) hg).trans HC.out)
      | (go_at_call 18; refine (get_any _ b' s' n (upd z k d) _ _ (.inl ⟨rfl, hxb⟩)).mono ?_; rw [E2.out]; rintro e wc ⟨rfl, hbc⟩; have hcc := hcb.below hbc; have hxc := hxb.below hbc; have hvc := below_go hvb (Nat.le_refl _) hbc; have hckc := (hvc.cell (p := ⟨g, o + k, none⟩) hg).trans HC.out)
      | (go_at_call 18; refine (get_any _ b s n z _ _ (.inl ⟨rfl, hca⟩)).mono ?_; rw [E1.out]; rintro e wb ⟨rfl, hbb⟩; have hcb := hca.below hbb; have hxb := hxa.below hbb; have hvb := below_go hva (Nat.le_refl _) hbb; have hckb := (hvb.cell (p := ⟨g, o + k, none⟩) hg).trans HC.out)
      | (go_at_call 22; refine (add_good b' s' n z k d hkn (by omega) (by omega) (by omega) _ hxd).mono ?_; rintro e wa ⟨rfl, hxa, hta⟩; have hca := hcd.turns hta (fun h => hne1 h) (fun h => hne2 h); have hva := below_turns hvd hvd.size hta (fun j hj h => by have h : j = s' := h; omega); have hcka := (hva.cell (p := ⟨g, o + k, none⟩) hg).trans HC.out))
  clear hwz hwd hwa hwp
  have hcm := hckf
  clear hcd hca hcb hcc hce hxd hxa hxb hxc hxe hva hvb hvc hve hck hcka hckb hckc hcke hckf
  go_wp2_with fail
  refine (add_good b s n z k (-(z k)) hkn (by omega) (by omega) (by omega) _ hcf).mono ?_
  rintro e wg ⟨rfl, hcg, htg⟩
  have hxg := hxf.turns htg (fun h => hne4 h) (fun h => hne5 h)
  have hvg := below_turns hvf hvf.size htg (fun j hj h => by have h : j = s := h; omega)
  clear hcf hxf hvf hcm
  have hcd := hcg.below (Below.refl _ _).drew
  have hxd := hxg.below (Below.refl _ _).drew
  have hvd := hvg.drew
  have hck := (hvd.cell (p := ⟨g, o + k, none⟩) hg).trans HC.out
  have hwz : IntKind.i64.wrap (z k) = z k := by rw [IntKind.wrap_i64]; omega
  have hwd : IntKind.i64.wrap d = d := by rw [IntKind.wrap_i64]; omega
  have hwa : IntKind.i64.wrap (z k + d) = z k + d := by rw [IntKind.wrap_i64]; omega
  have hwp : IntKind.i64.wrap ((k : Int) + 1) = (k : Int) + 1 := by rw [IntKind.wrap_i64]; omega
  have hws : IntKind.i64.wrap (pre (upd z k d) k + (z k + d) - pre (upd z k d) k) = z k + d := by rw [IntKind.wrap_i64]; omega
  go_wp2_with fail
  go_region_held3 (fun w' => w'.cell? ⟨g, o + k, none⟩ = some (.int .u16 (z k))) (go_keep)
    (first
      | (go_at_call 15; refine (works_ok _).mono ?_; rintro e wi ⟨rfl, hbi⟩; have hvi := below_go hvh (Nat.le_refl _) hbi; have hcki := (hvi.cell (p := ⟨g, o + k, none⟩) hg).trans HC.out)
      | (go_at_call 18; refine (get_any _ b' s' n (upd z k d) _ _ (.inl ⟨rfl, hxf⟩)).mono ?_; rw [E2.out]; rintro e wh ⟨rfl, hbh⟩; have hxh := hxf.below hbh; have hvh := below_go hvf (Nat.le_refl _) hbh; have hckh := (hvh.cell (p := ⟨g, o + k, none⟩) hg).trans HC.out)
      | (go_at_call 17; refine (prefix_all _ b' s' n (upd z k d) _ _ (.inl ⟨rfl, hxe⟩)).mono ?_; rw [E4.out]; rintro e wf ⟨rfl, hbf⟩; have hxf := hxe.below hbf; have hvf := below_go hve (Nat.le_refl _) hbf; have hckf := (hvf.cell (p := ⟨g, o + k, none⟩) hg).trans HC.out)
      | (go_at_call 17; refine (prefix_all _ b' s' n (upd z k d) _ _ (.inl ⟨rfl, hxc⟩)).mono ?_; rw [E5.out, E6.out]; rintro e we ⟨rfl, hbe⟩; have hxe := hxc.below hbe; have hve := below_go hvc (Nat.le_refl _) hbe; have hcke := (hve.cell (p := ⟨g, o + k, none⟩) hg).trans HC.out)
      | (go_at_call 18; refine (get_any _ b' s' n (upd z k d) _ _ (.inl ⟨rfl, hxb⟩)).mono ?_; rw [E2.out]; rintro e wc ⟨rfl, hbc⟩; have hxc := hxb.below hbc; have hvc := below_go hvb (Nat.le_refl _) hbc; have hckc := (hvc.cell (p := ⟨g, o + k, none⟩) hg).trans HC.out)
      | (go_at_call 18; refine (get_any _ b s n (upd z k (-(z k))) _ _ (.inl ⟨rfl, hcd⟩)).mono ?_; rw [E3.out, Int.add_right_neg]; rintro e wb ⟨rfl, hbb⟩; have hxb := hxd.below hbb; have hvb := below_go hvd (Nat.le_refl _) hbb; have hckb := (hvb.cell (p := ⟨g, o + k, none⟩) hg).trans HC.out))
  go_wp2_with fail
  go_ret
  exact ⟨rfl, hvi⟩

end Go.Proofs.Ytjikfmacdacgaaa
