/-
  The walk of FenwickNews.
-/
import Derived.Test.YtjikfmacdacgaaaR5
import Derived.Test.YtjikfmacdacgaaaR6
set_option linter.unusedVariables false
set_option linter.unusedSimpArgs false
namespace Go.Proofs.Ytjikfmacdacgaaa
open Go.RowKit Go.Shelf Fw

theorem news_walk (n x0 x1 x2 x3 x4 x5 : Int) (hx : x5 ≤ 9223372036854775807) (w : World) :
    Calls Try.prog 3 #[.int .i64 n, .agg #[.int .i64 x0, .int .i64 x1, .int .i64 x2, .int .i64 x3, .int .i64 x4, .int .i64 x5]] w fun e w' => e = .returned (.bool true) ∧ Below w.heap.size w w' := by
  have hv0 : Below w.heap.size w (w.alloc (.cells #[.int .i64 x0, .int .i64 x1, .int .i64 x2, .int .i64 x3, .int .i64 x4, .int .i64 x5] 23)) := (Below.refl _ _).alloc (Nat.le_refl _) _
  have kx := Blk.new w 23 #[.int .i64 x0, .int .i64 x1, .int .i64 x2, .int .i64 x3, .int .i64 x4, .int .i64 x5]
  by_cases hbad : n < 0 ∨ 65536 < n
  · go_enter Try.func3, Try.ntmps3
    go_wp2_with fail
    generalize w.alloc (.cells #[.int .i64 x0, .int .i64 x1, .int .i64 x2, .int .i64 x3, .int .i64 x4, .int .i64 x5] 23) = W0 at *
    have k0 := kx.cell 0
    have k1 := kx.cell 1
    have k2 := kx.cell 2
    have k3 := kx.cell 3
    have k4 := kx.cell 4
    have k5 := kx.cell 5
    simp at k0 k1 k2 k3 k4 k5
    refine (new_bad n _ hbad).mono ?_
    rintro e w1 ⟨rfl, rfl⟩
    go_wp2_with fail
    refine (rnew_bad n _ hbad).mono ?_
    rintro e w1 ⟨rfl, rfl⟩
    go_wp2_with fail
    refine (agree_ok none none 0 0 0 0 0 c0 x0 x1 x2 x3 x4 x5 hx _ (.inr ⟨.inl rfl, rfl⟩) (.inr ⟨rfl, rfl⟩)).mono ?_
    rintro e w1 ⟨rfl, hb1⟩
    go_wp2_with fail
    refine (works_ok _).mono ?_
    rintro e w2 ⟨rfl, hb2⟩
    go_wp2_with fail
    go_ret
    have q1 := hv0.trans (hb1.mono hv0.size)
    exact ⟨rfl, q1.trans (hb2.mono q1.size)⟩
  · obtain ⟨m, rfl⟩ := Int.eq_ofNat_of_zero_le (show 0 ≤ n by omega)
    go_enter Try.func3, Try.ntmps3
    go_wp2_with fail
    generalize w.alloc (.cells #[.int .i64 x0, .int .i64 x1, .int .i64 x2, .int .i64 x3, .int .i64 x4, .int .i64 x5] 23) = W0 at *
    refine (new_ok m _ (by omega)).mono ?_
    rintro e w1 ⟨b, s, rfl, hf1, hb, hs, hv1⟩
    have kx1 := kx.below hv1 kx.lt
    go_wp2_with fail
    refine (rnew_ok m _ (by omega)).mono ?_
    rintro e w2 ⟨rb, rs, rfl, hr2, hrb, hrs, hv2⟩
    have hf2 := hf1.below hv2
    have kx2 := kx1.below hv2 kx1.lt
    have k0 := kx2.cell 0
    have k1 := kx2.cell 1
    have k2 := kx2.cell 2
    have k3 := kx2.cell 3
    have k4 := kx2.cell 4
    have k5 := kx2.cell 5
    simp at k0 k1 k2 k3 k4 k5
    go_wp2_with fail
    refine (agree_ok _ _ b s rb rs m (fun _ => 0) x0 x1 x2 x3 x4 x5 hx _ (.inl ⟨rfl, hf2⟩) (.inl ⟨rfl, hr2⟩)).mono ?_
    rintro e w3 ⟨rfl, hb3⟩
    go_wp2_with fail
    refine (works_ok _).mono ?_
    rintro e w4 ⟨rfl, hb4⟩
    go_wp2_with fail
    go_ret
    have q1 := hv0.trans (hv1.mono hv0.size)
    have q2 := q1.trans (hv2.mono q1.size)
    have q3 := q2.trans (hb3.mono q2.size)
    exact ⟨rfl, q3.trans (hb4.mono q3.size)⟩

end Go.Proofs.Ytjikfmacdacgaaa
