/-
  The document's histograms: valid, Bucket, Total, Counts, Bounds.
-/
import Derived.Test.YtcmkjbliiggcbaaA7
import Derived.Test.YtcmkjbliiggcbaaL3
set_option linter.unusedVariables false
set_option linter.unusedSimpArgs false
namespace Go.Proofs.Ytcmkjbliiggcbaa
open Go.RowKit Go.Shelf

/-- a histogram of the document's -/
structure RHist (w : World) (p n : Nat) (B C : Nat → Int) (A : Option Addr) (cb s cs : Nat) : Prop where
  blk : Blk w p 72 #[.bool true, .slice A n cb, .slice (some ⟨s, 0, none⟩) (n + 1) cs]
  row : RowF .i64 w s 2 (n + 1) C
  arg : ArgI .i64 w A n cb B
  nil : A = none → n = 0 ∧ cb = 0
  far : 0 < n → ∀ g o, A = some ⟨g, o, none⟩ → g ≠ s ∧ g ≠ p
  cap : n + 1 ≤ cs
  big : cs ≤ 9223372036854775807
  le : n ≤ 1024
theorem RHist.below {w w' : World} {p n : Nat} {B C : Nat → Int} {A : Option Addr} {cb s cs : Nat} (h : RHist w p n B C A cb s cs) (hb : Below w.heap.size w w') : RHist w' p n B C A cb s cs :=
  ⟨h.blk.below hb h.blk.lt, h.row.below' hb, h.arg.below hb, h.nil, h.far, h.cap, h.big, h.le⟩
theorem RHist.cells {w : World} {p n : Nat} {B C : Nat → Int} {A : Option Addr} {cb s cs : Nat} (h : RHist w p n B C A cb s cs) :
    w.cell? ⟨p, 0, none⟩ = some (.bool true) ∧ w.cell? ⟨p, 1, none⟩ = some (.slice A n cb) ∧ w.cell? ⟨p, 2, none⟩ = some (.slice (some ⟨s, 0, none⟩) (n + 1) cs) :=
  ⟨h.blk.cell 0, h.blk.cell 1, h.blk.cell 2⟩
section
variable {w : World} {p n : Nat} {B C : Nat → Int} {A : Option Addr} {cb s cs : Nat}
theorem rvalid_ok (h : RHist w p n B C A cb s cs) : Calls Try.prog 36 #[.pointer (some ⟨p, 0, none⟩)] w fun e w' => e = .returned (.bool true) ∧ w = w' := by
  obtain ⟨c0, c1, c2⟩ := h.cells
  go_enter Try.func36, Try.ntmps36
  go_wp2_with fail
  go_ret
  exact ⟨rfl, rfl⟩
theorem rvalid_no (w : World) : Calls Try.prog 36 #[.pointer none] w fun e w' => e = .returned (.bool false) ∧ w = w' := by
  go_enter Try.func36, Try.ntmps36
  go_wp2_with fail
  go_ret
  exact ⟨rfl, rfl⟩
set_option maxRecDepth 100000 in
set_option maxHeartbeats 1000000 in
theorem rbucket_ok (h : RHist w p n B C A cb s cs) (x : Int) :
    Calls Try.prog 26 #[.pointer (some ⟨p, 0, none⟩), .int .i64 x] w fun e w' => e = .returned (.int .i64 (bk B x n)) ∧ w = w' := by
  have hv := rvalid_ok h
  have hle := h.le
  obtain ⟨c0, c1, c2⟩ := h.cells
  go_enter Try.func26, Try.ntmps26
  go_wp2_with (go_at_call 36; refine hv.mono ?_; rintro e w' ⟨rfl, rfl⟩)
  go_loop [5, 6] (fun vn vi => ∃ i : Nat, vi = .int .i64 i ∧ i ≤ n ∧ vn = .int .i64 (bk B x i)) (fun _ vi => n - (intOf vi).toNat)
  case atStart => exact ⟨0, rfl, Nat.zero_le _, rfl⟩
  case round =>
    obtain ⟨i, rfl, hi, rfl⟩ := hrel
    have hbi := bk_le B x i
    by_cases hlt : i < n
    · obtain ⟨g, o, rfl, hg, hc⟩ := h.arg.2.2.1 (by omega)
      have ci := hc i hlt
      have hin : (i : Int) < (n : Int) := by omega
      have hcb := h.arg.1
      clear hc
      by_cases hx : B i ≤ x
      · have HS := Lib.hid (show bk B x (i + 1) = bk B x i + 1 by simp only [bk]; rw [if_pos hx])
        obtain ⟨y, hy⟩ : ∃ y, B i = y := ⟨_, rfl⟩
        obtain ⟨k, hk⟩ : ∃ k, bk B x i = k := ⟨_, rfl⟩
        rw [hy] at ci hx
        rw [hk] at hbi HS
        rw [hk]
        clear hy hk
        go_wp2_with fail
        go_round
        case rel => exact ⟨i + 1, by simp, by omega, by rw [HS.out]; simp⟩
        case measure => simp [intOf]; omega
      · have HS := Lib.hid (show bk B x (i + 1) = bk B x i by simp only [bk]; rw [if_neg hx]; rfl)
        obtain ⟨y, hy⟩ : ∃ y, B i = y := ⟨_, rfl⟩
        obtain ⟨k, hk⟩ : ∃ k, bk B x i = k := ⟨_, rfl⟩
        rw [hy] at ci hx
        rw [hk] at hbi HS
        rw [hk]
        have hx : x < y := by omega
        clear hy hk
        go_wp2_with fail
        go_round
        case rel => exact ⟨i + 1, by simp, by omega, by rw [HS.out]⟩
        case measure => simp [intOf]; omega
    · obtain rfl : i = n := by omega
      obtain ⟨k, hk⟩ : ∃ k, bk B x i = k := ⟨_, rfl⟩
      rw [hk]
      have HK := Lib.hid hk
      clear hk
      go_wp2_with fail
      go_ret
      exact ⟨by rw [HK.out]; rfl, rfl⟩
set_option maxRecDepth 100000 in
set_option maxHeartbeats 1000000 in
theorem rtotal_ok (h : RHist w p n B C A cb s cs) {T : Int} (hg : Good C n T) :
    Calls Try.prog 37 #[.pointer (some ⟨p, 0, none⟩)] w fun e w' => e = .returned (.int .i64 T) ∧ w = w' := by
  have hv := rvalid_ok h
  have hle := h.le
  have hTl := hg.le
  have HG := Lib.hid hg
  obtain ⟨c0, c1, c2⟩ := h.cells
  go_enter Try.func37, Try.ntmps37
  go_wp2_with (go_at_call 36; refine hv.mono ?_; rintro e w' ⟨rfl, rfl⟩)
  go_loop [3, 4] (fun va vi => ∃ i : Nat, vi = .int .i64 i ∧ i ≤ n + 1 ∧ va = .int .i64 (tot C i)) (fun _ vi => n + 1 - (intOf vi).toNat)
  case atStart => exact ⟨0, rfl, Nat.zero_le _, rfl⟩
  case round =>
    obtain ⟨i, rfl, hi, rfl⟩ := hrel
    have t0 := tot_in HG.out i hi
    by_cases hli : i < n + 1
    · have ci := h.row.cell hli
      have hin : (i : Int) < (n : Int) + 1 := by omega
      have hcap := h.cap
      have cb0 := HG.out.at_ hli
      have t1 := tot_in HG.out (i + 1) (by omega)
      have HS := Lib.hid (show tot C i + C i = tot C (i + 1) from rfl)
      obtain ⟨u, hu⟩ : ∃ u, tot C i = u := ⟨_, rfl⟩
      obtain ⟨y, hy⟩ : ∃ y, C i = y := ⟨_, rfl⟩
      obtain ⟨v, hv⟩ : ∃ v, tot C (i + 1) = v := ⟨_, rfl⟩
      have HV := Lib.hid hv
      rw [hv] at t1 HS
      rw [hu] at t0 HS
      rw [hy] at ci cb0 HS
      rw [hu]
      have huv := HS.out
      clear hu hy hv
      go_wp2_with fail
      go_round
      case rel => exact ⟨i + 1, by simp, by omega, by rw [HV.out]⟩
      case measure => simp [intOf]; omega
    · obtain rfl : i = n + 1 := by omega
      rw [HG.out.sum]
      go_wp2_with fail
      go_ret
      exact ⟨rfl, rfl⟩
set_option maxRecDepth 100000 in
theorem rcounts_ok (h : RHist w p n B C A cb s cs) (hC : ∀ j, j < n + 1 → Fits (C j)) :
    Calls Try.prog 43 #[.pointer (some ⟨p, 0, none⟩)] w fun e w' => ∃ A' c', e = .returned (.slice A' (n + 1) c') ∧ ArgI .i64 w' A' (n + 1) c' C ∧ Below w.heap.size w w' := by
  have hv := rvalid_ok h
  have hle := h.le
  have ha := row_arg h.row h.cap h.big hC
  obtain ⟨c0, c1, c2⟩ := h.cells
  go_enter Try.func43, Try.ntmps43
  go_wp2_with (first
    | (go_at_call 36; refine hv.mono ?_; rintro e w' ⟨rfl, rfl⟩)
    | (at_builtin; refine wpList_append_ints rfl _ _ rfl w.heap.size (.slice none 0 0) 0 (fun _ => 0) rfl (World.ownsRow_nil _ _ _ _) (some ⟨s, 0, none⟩) (n + 1) cs C rfl ha (fun h => by cases h) (by omega) (Nat.le_refl _) ?_; intro v' w1 hown hgrow; rw [Nat.zero_add, vals_ext (y := C) (fun j hj => by unfold cat; rw [if_neg (by omega)]; rfl)] at hown; have hb1 := (Below.refl w.heap.size w).grown hgrow (Nat.le_refl _) (fun k hk => by simp [Value.ownBlock] at hk); obtain ⟨A', c', rfl, h1, h2, h3⟩ := own_arg hown hC))
  go_ret
  exact ⟨_, _, rfl, h1, hb1⟩
set_option maxRecDepth 100000 in
theorem rbounds_ok (h : RHist w p n B C A cb s cs) :
    Calls Try.prog 44 #[.pointer (some ⟨p, 0, none⟩)] w fun e w' => ∃ A' c', e = .returned (.slice A' n c') ∧ ArgI .i64 w' A' n c' B ∧ Below w.heap.size w w' := by
  have hv := rvalid_ok h
  have hle := h.le
  have ha := h.arg
  have hA := h.nil
  have hB : ∀ j, j < n → Fits (B j) := fun j hj => wf_i64 (h.arg.2.2.2 j hj)
  obtain ⟨c0, c1, c2⟩ := h.cells
  go_enter Try.func44, Try.ntmps44
  go_wp2_with (first
    | (go_at_call 36; refine hv.mono ?_; rintro e w' ⟨rfl, rfl⟩)
    | (at_builtin; refine wpList_append_ints rfl _ _ rfl w.heap.size (.slice none 0 0) 0 (fun _ => 0) rfl (World.ownsRow_nil _ _ _ _) A n cb B rfl ha hA (by omega) (Nat.le_refl _) ?_; intro v' w1 hown hgrow; rw [Nat.zero_add, vals_ext (y := B) (fun j hj => by unfold cat; rw [if_neg (by omega)]; rfl)] at hown; have hb1 := (Below.refl w.heap.size w).grown hgrow (Nat.le_refl _) (fun k hk => by simp [Value.ownBlock] at hk); obtain ⟨A', c', rfl, h1, h2, h3⟩ := own_arg hown hB))
  go_ret
  exact ⟨_, _, rfl, h1, hb1⟩
theorem rvoid_add (w : World) (a d : Int) : Calls Try.prog 25 #[.pointer none, .int .i64 a, .int .i64 d] w fun e w' => e = .returned (.int .i64 1) ∧ w = w' := by
  have hv := rvalid_no w
  go_enter Try.func25, Try.ntmps25
  go_wp2_with (go_at_call 36; refine hv.mono ?_; rintro e w' ⟨rfl, rfl⟩)
  go_ret
  exact ⟨rfl, rfl⟩
theorem rvoid_bucket (w : World) (x : Int) : Calls Try.prog 26 #[.pointer none, .int .i64 x] w fun e w' => e = .returned (.int .i64 0) ∧ w = w' := by
  have hv := rvalid_no w
  go_enter Try.func26, Try.ntmps26
  go_wp2_with (go_at_call 36; refine hv.mono ?_; rintro e w' ⟨rfl, rfl⟩)
  go_ret
  exact ⟨rfl, rfl⟩
theorem rvoid_total (w : World) : Calls Try.prog 37 #[.pointer none] w fun e w' => e = .returned (.int .i64 0) ∧ w = w' := by
  have hv := rvalid_no w
  go_enter Try.func37, Try.ntmps37
  go_wp2_with (go_at_call 36; refine hv.mono ?_; rintro e w' ⟨rfl, rfl⟩)
  go_ret
  exact ⟨rfl, rfl⟩
theorem rvoid_counts (w : World) : Calls Try.prog 43 #[.pointer none] w fun e w' => e = .returned (.slice none 0 0) ∧ w = w' := by
  have hv := rvalid_no w
  go_enter Try.func43, Try.ntmps43
  go_wp2_with (go_at_call 36; refine hv.mono ?_; rintro e w' ⟨rfl, rfl⟩)
  go_ret
  exact ⟨rfl, rfl⟩
theorem rvoid_bounds (w : World) : Calls Try.prog 44 #[.pointer none] w fun e w' => e = .returned (.slice none 0 0) ∧ w = w' := by
  have hv := rvalid_no w
  go_enter Try.func44, Try.ntmps44
  go_wp2_with (go_at_call 36; refine hv.mono ?_; rintro e w' ⟨rfl, rfl⟩)
  go_ret
  exact ⟨rfl, rfl⟩
end
end Go.Proofs.Ytcmkjbliiggcbaa
