/-
  agree: what both show is the same.
-/
import Derived.Test.YtjikfmacdacgaaaR4
import Derived.Deep.DrawnRows
set_option linter.unusedVariables false
set_option linter.unusedSimpArgs false
namespace Go.Proofs.Ytjikfmacdacgaaa
open Go.RowKit Go.Shelf Fw
attribute [local go_sem ↓] Go.wp_at_zero Go.wp_at_succ

set_option maxRecDepth 100000 in
set_option maxHeartbeats 2000000 in
theorem agree_ok (p q : Option Addr) (b s rb rs n : Nat) (C : Nat → Int) (x0 x1 x2 x3 x4 x5 : Int) (hx : x5 ≤ 9223372036854775807) (w : World) (hf : EF w p b s n C) (hr : ER w q rb rs n C) :
    Calls Try.prog 14 #[.pointer p, .pointer q, .agg #[.int .i64 x0, .int .i64 x1, .int .i64 x2, .int .i64 x3, .int .i64 x4, .int .i64 x5]] w fun e w' => e = .returned (.bool true) ∧ Below w.heap.size w w' := by
  have hv0 : Below w.heap.size w (w.alloc (.cells #[.int .i64 x0, .int .i64 x1, .int .i64 x2, .int .i64 x3, .int .i64 x4, .int .i64 x5] 23)) := (Below.refl _ _).alloc (Nat.le_refl _) _
  have kx := Blk.new w 23 #[.int .i64 x0, .int .i64 x1, .int .i64 x2, .int .i64 x3, .int .i64 x4, .int .i64 x5]
  have hf0 := hf.below hv0
  have hr0 := hr.below hv0
  clear hf hr
  go_enter Try.func14, Try.ntmps14
  go_wp2_with fail
  generalize w.alloc (.cells #[.int .i64 x0, .int .i64 x1, .int .i64 x2, .int .i64 x3, .int .i64 x4, .int .i64 x5] 23) = W0 at *
  refine (find_any p b s n C _ x5 hf0).mono ?_
  rintro e w1 ⟨rfl, hb1⟩
  have hf1 := hf0.below hb1
  have hr1 := hr0.below hb1
  have kx1 := kx.below hb1 kx.lt
  have hv1 := hv0.trans (hb1.mono hv0.size)
  clear hf0 hr0 kx hv0 hb1
  have c1 := kx1.cell 1
  have c3 := kx1.cell 3
  have c4 := kx1.cell 4
  have c5 := kx1.cell 5
  simp at c1 c3 c4 c5
  go_wp2_with (go_at_call 27; refine (rfind_all q rb rs n C _ _ hx hr1).mono ?_; rintro e w' ⟨rfl, rfl⟩)
  have hfd : EF w1.drew p b s n C := hf1.below (Below.refl _ _).drew
  have hrd : ER w1.drew q rb rs n C := hr1.below (Below.refl _ _).drew
  have kxd := kx1.drew
  have hvd := hv1.drew
  clear hf1 hr1 kx1 hv1
  go_region_held3 (fun w' => w'.cell? ⟨w.heap.size, 1, none⟩ = some (.int .i64 x1) ∧ w'.cell? ⟨w.heap.size, 3, none⟩ = some (.int .i64 x3) ∧ w'.cell? ⟨w.heap.size, 4, none⟩ = some (.int .i64 x4)) (go_keep)
    (first
      | (go_at_call 18; refine (get_any p b s n C _ _ (by assumption)).mono ?_; rintro e wn ⟨rfl, hb⟩; have hfn := EF.below (by assumption) hb; have hrn := ER.below (by assumption) hb; have kxn := Blk.below (by assumption) hb (Blk.lt (by assumption)); have cn1 := kxn.cell 1; have cn3 := kxn.cell 3; have cn4 := kxn.cell 4; simp at cn1 cn3 cn4; have hvn := Below.trans (by assumption) (hb.mono (Below.size (by assumption))); clear hb)
      | (go_at_call 17; refine (prefix_all p b s n C _ _ (by assumption)).mono ?_; rintro e wn ⟨rfl, hb⟩; have hfn := EF.below (by assumption) hb; have hrn := ER.below (by assumption) hb; have kxn := Blk.below (by assumption) hb (Blk.lt (by assumption)); have cn1 := kxn.cell 1; have cn3 := kxn.cell 3; have cn4 := kxn.cell 4; simp at cn1 cn3 cn4; have hvn := Below.trans (by assumption) (hb.mono (Below.size (by assumption))); clear hb)
      | (go_at_call 20; refine (range_any p b s n C _ _ _ (by assumption)).mono ?_; rintro e wn ⟨rfl, hb⟩; have hfn := EF.below (by assumption) hb; have hrn := ER.below (by assumption) hb; have kxn := Blk.below (by assumption) hb (Blk.lt (by assumption)); have cn1 := kxn.cell 1; have cn3 := kxn.cell 3; have cn4 := kxn.cell 4; simp at cn1 cn3 cn4; have hvn := Below.trans (by assumption) (hb.mono (Below.size (by assumption))); clear hb)
      | (go_at_call 28; refine (rget_any q rb rs n C _ _ (by assumption)).mono ?_; rintro e wn ⟨rfl, rfl⟩)
      | (go_at_call 29; refine (rprefix_all q rb rs n C _ _ (by assumption)).mono ?_; rintro e wn ⟨rfl, rfl⟩)
      | (go_at_call 30; refine (rrange_any q rb rs n C _ _ _ (by assumption)).mono ?_; rintro e wn ⟨rfl, rfl⟩))
  go_wp2_with (first
      | (go_at_call 19; refine (total_any p b s n C _ (by assumption)).mono ?_; rintro e wz ⟨rfl, hbz⟩; have hfz := EF.below (by assumption) hbz; have hrz := ER.below (by assumption) hbz; have hvz := Below.trans (by assumption) (hbz.mono (Below.size (by assumption))))
      | (go_at_call 31; refine (rtotal_any q rb rs n C _ hrz).mono ?_; rintro e wn ⟨rfl, rfl⟩)
      | (go_at_call 26; refine (len_any p b s n C _ hfz).mono ?_; rintro e wn ⟨rfl, rfl⟩)
      | (go_at_call 32; refine (rlen_any q rb rs n C _ hrz).mono ?_; rintro e wn ⟨rfl, rfl⟩))
  go_ret
  exact ⟨rfl, hvz⟩

end Go.Proofs.Ytjikfmacdacgaaa
