/-
  Histograms that are nil or were not made by New, and the walk of HistoNil.
-/
import Derived.Test.YtcmkjbliiggcbaaA7
set_option linter.unusedVariables false
set_option linter.unusedSimpArgs false
namespace Go.Proofs.Ytcmkjbliiggcbaa
open Go.RowKit Go.Shelf

/-- no histogram: nil, or not made by New -/
def Void (w : World) (v : Option Addr) : Prop := v = none ∨ ∃ z, v = some ⟨z, 0, none⟩ ∧ Blk w z 63 #[.slice none 0 0, .slice none 0 0, .int .i64 0]
theorem Void.below {w w' : World} {v : Option Addr} (h : Void w v) (hb : Below w.heap.size w w') : Void w' v := by
  rcases h with h | ⟨z, h1, h2⟩
  · exact Or.inl h
  · exact Or.inr ⟨z, h1, h2.below hb h2.lt⟩
section
variable {w : World} {v : Option Addr}
theorem void_valid (h : Void w v) : Calls Try.prog 34 #[.pointer v] w fun e w' => e = .returned (.bool false) ∧ w = w' := by
  rcases h with rfl | ⟨z, rfl, hz⟩
  · exact valid_no w
  · have c1 := hz.cell 1
    simp at c1
    go_enter Try.func34, Try.ntmps34
    go_wp2_with fail
    go_ret
    exact ⟨rfl, rfl⟩
theorem void_quant (h : Void w v) (a d : Int) : Calls Try.prog 16 #[.pointer v, .int .i64 a, .int .i64 d] w fun e w' => e = .returned (.tuple #[.int .i64 0, .int .i64 1]) ∧ w = w' := by
  have hv := void_valid h
  go_enter Try.func16, Try.ntmps16
  go_wp2_with (go_at_call 34; refine hv.mono ?_; rintro e w' ⟨rfl, rfl⟩)
  go_ret2
  exact ⟨rfl, rfl⟩
theorem void_coarse (h : Void w v) (a : Int) : Calls Try.prog 29 #[.pointer v, .int .i64 a] w fun e w' => e = .returned (.tuple #[.pointer none, .int .i64 1]) ∧ w = w' := by
  have hv := void_valid h
  go_enter Try.func29, Try.ntmps29
  go_wp2_with (go_at_call 34; refine hv.mono ?_; rintro e w' ⟨rfl, rfl⟩)
  go_ret2
  exact ⟨rfl, rfl⟩
theorem void_add (h : Void w v) (a d : Int) : Calls Try.prog 20 #[.pointer v, .int .i64 a, .int .i64 d] w fun e w' => e = .returned (.int .i64 1) ∧ w = w' := by
  have hv := void_valid h
  go_enter Try.func20, Try.ntmps20
  go_wp2_with (go_at_call 34; refine hv.mono ?_; rintro e w' ⟨rfl, rfl⟩)
  go_ret
  exact ⟨rfl, rfl⟩
theorem void_merge (h : Void w v) (u : Option Addr) : Calls Try.prog 27 #[.pointer v, .pointer u] w fun e w' => e = .returned (.int .i64 1) ∧ w = w' := by
  have hv := void_valid h
  go_enter Try.func27, Try.ntmps27
  go_wp2_with (go_at_call 34; refine hv.mono ?_; rintro e w' ⟨rfl, rfl⟩)
  go_ret
  exact ⟨rfl, rfl⟩
theorem merge_void {p n : Nat} {B C : Nat → Int} {T : Int} {A : Option Addr} {cb s cs : Nat} (hh : Hist w p n B C T A cb s cs) (h : Void w v) : Calls Try.prog 27 #[.pointer (some ⟨p, 0, none⟩), .pointer v] w fun e w' => e = .returned (.int .i64 1) ∧ w = w' := by
  have hv := void_valid h
  have hg := valid_ok hh
  go_enter Try.func27, Try.ntmps27
  go_wp2_with fail
  refine hg.mono ?_
  rintro e w' ⟨rfl, rfl⟩
  go_wp2_with fail
  refine hv.mono ?_
  rintro e w' ⟨rfl, rfl⟩
  go_wp2_with fail
  go_ret
  exact ⟨rfl, rfl⟩
theorem void_counts (h : Void w v) : Calls Try.prog 21 #[.pointer v] w fun e w' => e = .returned (.slice none 0 0) ∧ w = w' := by
  have hv := void_valid h
  go_enter Try.func21, Try.ntmps21
  go_wp2_with (go_at_call 34; refine hv.mono ?_; rintro e w' ⟨rfl, rfl⟩)
  go_ret
  exact ⟨rfl, rfl⟩
theorem void_bounds (h : Void w v) : Calls Try.prog 33 #[.pointer v] w fun e w' => e = .returned (.slice none 0 0) ∧ w = w' := by
  have hv := void_valid h
  go_enter Try.func33, Try.ntmps33
  go_wp2_with (go_at_call 34; refine hv.mono ?_; rintro e w' ⟨rfl, rfl⟩)
  go_ret
  exact ⟨rfl, rfl⟩
theorem void_total (h : Void w v) : Calls Try.prog 22 #[.pointer v] w fun e w' => e = .returned (.int .i64 0) ∧ w = w' := by
  have hv := void_valid h
  go_enter Try.func22, Try.ntmps22
  go_wp2_with (go_at_call 34; refine hv.mono ?_; rintro e w' ⟨rfl, rfl⟩)
  go_ret
  exact ⟨rfl, rfl⟩
theorem void_copy (h : Void w v) : Calls Try.prog 31 #[.pointer v] w fun e w' => e = .returned (.pointer none) ∧ w = w' := by
  have hv := void_valid h
  go_enter Try.func31, Try.ntmps31
  go_wp2_with (go_at_call 34; refine hv.mono ?_; rintro e w' ⟨rfl, rfl⟩)
  go_ret
  exact ⟨rfl, rfl⟩
theorem void_bucket (h : Void w v) (x : Int) : Calls Try.prog 19 #[.pointer v, .int .i64 x] w fun e w' => e = .returned (.int .i64 0) ∧ Below w.heap.size w w' := by
  have q := below_new2 w (.cells #[.pointer v] 26) (.cells #[.int .i64 x] 2)
  have k1 := (Blk.new w 26 #[.pointer v]).alloc (.cells #[.int .i64 x] 2)
  have hv := void_valid (h.below q)
  go_enter Try.func19, Try.ntmps19
  go_upto_region 1 with fail
  generalize (w.alloc (.cells #[.pointer v] 26)).alloc (.cells #[.int .i64 x] 2) = W0 at *
  have m1 := k1.cell 0
  simp at m1
  go_wp2_with (go_at_call 34; refine hv.mono ?_; rintro e w' ⟨rfl, rfl⟩)
  go_ret
  exact ⟨rfl, q⟩
end

set_option maxRecDepth 100000 in
set_option maxHeartbeats 4000000 in
theorem nil_walk (x t b : Int) (hx : Fits x) (w : World) :
    Calls Try.prog 13 #[.int .i64 x, .int .i64 t, .int .i64 b] w fun e w' => e = .returned (.bool true) ∧ Below w.heap.size w w' := by
  have q := below_new1 w (.cells #[.int .i64 x] 2)
  have k0 := Blk.new w 2 #[.int .i64 x]
  go_enter Try.func13, Try.ntmps13
  go_wp2_with fail
  generalize w.alloc (.cells #[.int .i64 x] 2) = W0 at *
  refine (new_ok 1 1 (some ⟨w.heap.size, 0, none⟩) (fun _ => x) _ (argI_row k0 (by decide) (fun i hi => by cases (show i = 0 by omega); rfl) (fun i hi => hx)) (fun h => by cases h)).mono ?_
  rintro e w1 (⟨p, A, cb, s, cs, rfl, h, hp, hs, hv1⟩ | ⟨rfl, hno, _⟩)
  case inr => exact (hno ⟨by decide, fun i j h1 h2 => by omega⟩).elim
  have q := below_end q q.size hv1
  have z1 := Blk.new w1 63 #[.slice none 0 0, .slice none 0 0, .int .i64 0]
  have z2 := z1.alloc (.cells #[.pointer none, .pointer (some ⟨w1.heap.size, 0, none⟩)] 26)
  have l2 := Blk.new2 w1 (.cells #[.slice none 0 0, .slice none 0 0, .int .i64 0] 63) 26 #[.pointer none, .pointer (some ⟨w1.heap.size, 0, none⟩)]
  have b2 := below_new2 w1 (.cells #[.slice none 0 0, .slice none 0 0, .int .i64 0] 63) (.cells #[.pointer none, .pointer (some ⟨w1.heap.size, 0, none⟩)] 26)
  have h2 := h.below b2
  have q := below_end q q.size b2
  go_upto_region 6 with fail
  generalize (w1.alloc (.cells #[.slice none 0 0, .slice none 0 0, .int .i64 0] 63)).alloc (.cells #[.pointer none, .pointer (some ⟨w1.heap.size, 0, none⟩)] 26) = W2 at *
  go_wp2_with fail
  go_loopw [11] (fun vk wr => ∃ k : Nat, vk = .int .i64 k ∧ k ≤ 2 ∧ Hist wr p 1 (fun _ => x) (fun _ => 0) 0 A cb s cs ∧ Blk wr w1.heap.size 63 #[.slice none 0 0, .slice none 0 0, .int .i64 0] ∧ Blk wr (w1.heap.size + 1) 26 #[.pointer none, .pointer (some ⟨w1.heap.size, 0, none⟩)] ∧ Below w.heap.size w wr) (fun vk _ => 2 - (intOf vk).toNat)
  case atStart => exact ⟨0, rfl, by omega, h2, z2, l2, q⟩
  case round =>
    clear h h2 z1 z2 l2 q k0
    obtain ⟨k, rfl, hk, h, z, l, q⟩ := hrel
    have hcell : k < 2 → ∃ v, wr.cell? ⟨w1.heap.size + 1, k, none⟩ = some (.pointer v) ∧ Void wr v := fun hk2 => by
      rcases k with _ | _ | k
      · exact ⟨none, l.cell 0, Or.inl rfl⟩
      · exact ⟨_, l.cell 1, Or.inr ⟨_, rfl, z⟩⟩
      · omega
    by_cases hlt : k < 2
    · obtain ⟨v, hc, hv⟩ := hcell hlt
      have hki : (k : Int) < 2 := by omega
      clear hcell
      go_wp2_with (first
        | (go_at_call 16; refine (void_quant hv _ _).mono ?_; rintro e w' ⟨rfl, rfl⟩)
        | (go_at_call 29; refine (void_coarse hv _).mono ?_; rintro e w' ⟨rfl, rfl⟩)
        | (go_at_call 20; refine (void_add hv _ _).mono ?_; rintro e w' ⟨rfl, rfl⟩; have mark1 := hv)
        | (go_at_call 27; have mk := mark2; refine (merge_void h hv).mono ?_; rintro e w' ⟨rfl, rfl⟩)
        | (go_at_call 27; have mk := mark1; refine (void_merge hv _).mono ?_; rintro e w' ⟨rfl, rfl⟩; have mark2 := hv)
        | (go_at_call 19; refine (void_bucket hv x).mono ?_; rintro e w3 ⟨rfl, hv3⟩; have hv4 := hv.below hv3)
        | (go_at_call 21; refine (void_counts hv4).mono ?_; rintro e w' ⟨rfl, rfl⟩)
        | (go_at_call 33; refine (void_bounds hv4).mono ?_; rintro e w' ⟨rfl, rfl⟩)
        | (go_at_call 22; refine (void_total hv4).mono ?_; rintro e w' ⟨rfl, rfl⟩)
        | (go_at_call 31; refine (void_copy hv4).mono ?_; rintro e w' ⟨rfl, rfl⟩))
      go_roundw
      case rel => exact ⟨k + 1, by simp, by omega, h.below hv3, z.below hv3 z.lt, l.below hv3 l.lt, below_end q q.size hv3⟩
      case measure => simp [intOf]; omega
    · obtain rfl : k = 2 := by omega
      go_wp2_with (go_at_call 14; refine (works_ok _).mono ?_; rintro e w9 ⟨rfl, hv9⟩)
      go_ret
      exact ⟨rfl, below_end q q.size hv9⟩
end Go.Proofs.Ytcmkjbliiggcbaa
