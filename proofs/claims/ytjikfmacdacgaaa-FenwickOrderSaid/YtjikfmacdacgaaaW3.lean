/-
  Prefix and what is made of it.
-/
import Derived.Test.YtjikfmacdacgaaaW2
set_option linter.unusedVariables false
set_option linter.unusedSimpArgs false
namespace Go.Proofs.Ytjikfmacdacgaaa
open Go.RowKit Go.Shelf Fw

attribute [local go_sem] Oper.semAt_some

/-- the sum over some places, wraps and all -/
def sumD (t : Nat → Int) (n : Nat) (l : List Nat) : Int := l.foldl (fun s x => wrap64 (s + t (cl n x))) 0
theorem sumD_snoc (t : Nat → Int) (n : Nat) (l : List Nat) (x : Nat) : sumD t n (l ++ [x]) = wrap64 (sumD t n l + t (cl n x)) := by simp [sumD]

set_option maxRecDepth 100000 in
set_option maxHeartbeats 1000000 in
theorem prefix_walk (b s n : Nat) (t : Nat → Int) (k mk : Int) (w : World) (h : FW w b s n t) (hn : n ≤ 65536) (hmk : (if (n : Int) < k then (n : Int) else k) = mk) (hmn : mk ≤ n) :
    Calls Try.prog 17 #[.pointer (some ⟨b, 0, none⟩), .int .i64 k] w fun e w' => ∃ ys, IsDown mk.toNat ys ∧ e = .returned (.int .i64 (sumD t n ys)) ∧ Below w.heap.size w w' := by
  have hb1 : Below w.heap.size w ((w.alloc (.cells #[.pointer (some ⟨b, 0, none⟩)] 24)).alloc (.cells #[.int .i64 0] 2)) := ((Below.refl _ _).alloc (Nat.le_refl _) _).alloc (by simp) _
  have hv0 : Below w.heap.size w (w.alloc (.cells #[.pointer (some ⟨b, 0, none⟩)] 24)) := (Below.refl _ _).alloc (Nat.le_refl _) _
  have hl0 : Below w.heap.size w ((((w.alloc (.cells #[.pointer (some ⟨b, 0, none⟩)] 24)).alloc (.cells #[.int .i64 0] 2)).alloc (.cells #[.int .i64 mk] 3)).drew) := (hb1.alloc (by simp; omega) _).drew
  refine calls_of_marks Try.func17 rfl ?_
  simp only [Try.ntmps17, List.size_toArray, List.length_cons, List.length_nil, Nat.reduceAdd, Nat.reduceSub, Array.replicate_succ, Array.replicate_zero, List.push_toArray, List.append_toArray, List.nil_append, List.cons_append]
  go_wp2_with (go_at_call 33; refine (valid_ok b s n t _ (h.below hv0)).mono ?_; rintro e w' ⟨rfl, rfl⟩)
  go_region_held3 (fun w' => w'.cell? ⟨w.heap.size, 0, none⟩ = some (.pointer (some ⟨b, 0, none⟩))) (go_keep)
    (first | (go_at_call 26; refine (len_ok b s n t _ ?_ hn).mono ?_; exact (h.below hb1.drew); rintro e w' ⟨rfl, rfl⟩) | (go_at_call 34; refine (parts_any _ _ _).mono ?_; rintro e w' ⟨rfl, rfl⟩))
  all_goals go_wp2
  have hs0 : Blk (w.alloc (.cells #[.pointer (some ⟨b, 0, none⟩)] 24)) w.heap.size 24 #[.pointer (some ⟨b, 0, none⟩)] := Blk.new _ _ _
  have hs1 : Blk ((w.alloc (.cells #[.pointer (some ⟨b, 0, none⟩)] 24)).alloc (.cells #[.int .i64 0] 2)) (w.heap.size + 1) 2 #[.int .i64 0] := by have := Blk.new (w.alloc (.cells #[.pointer (some ⟨b, 0, none⟩)] 24)) 2 #[.int .i64 0]; simpa using this
  have hs2 : Blk (((w.alloc (.cells #[.pointer (some ⟨b, 0, none⟩)] 24)).alloc (.cells #[.int .i64 0] 2)).alloc (.cells #[.int .i64 mk] 3)) (w.heap.size + 1 + 1) 3 #[.int .i64 mk] := by have := Blk.new ((w.alloc (.cells #[.pointer (some ⟨b, 0, none⟩)] 24)).alloc (.cells #[.int .i64 0] 2)) 3 #[.int .i64 mk]; simpa using this
  refine wpIn_wide.1 (wpIn_rangeFunc_ownF (F := Fence.wide) (n := 9) rfl (by decide) (gf := 42) (lb := #[.pointer (some ⟨w.heap.size + 1 + 1, 0, none⟩)]) rfl trivial (enters_of Try.func42 (by kernel_rfl) rfl)
    (parts_stops (w.heap.size + 1 + 1) n mk hmn hn _ (by simp) (by have := hs2.drew.cell 0; simpa using this)) (fun _ _ => trivial) (fun _ _ _ _ _ _ _ _ => trivial) (Below.refl _ _) (fun _ => rfl)
    (fun pre W => (Blk W w.heap.size 24 #[.pointer (some ⟨b, 0, none⟩)] ∧ Blk W (w.heap.size + 1) 2 #[.int .i64 (sumD t n pre)]) ∧ Below w.heap.size w W)
    (fun _ _ _ => False)
    (OwnFrom.and (Own.from (fun s A B row hs hg hr => ⟨hs.1.own hg hr, hs.2.own hg hr⟩) _) (ownFrom_below (Nat.le_refl _) (by simp; omega)))
    (fun _ _ _ _ _ hs _ _ => hs)
    ⟨⟨((hs0.alloc _).alloc _).drew, (hs1.alloc _).drew⟩, hl0⟩
    (fun x => { tmps := #[.pointer (some ⟨b, 0, none⟩), .int .i64 k, .pointer (some ⟨w.heap.size, 0, none⟩), undef, .int .i64 0, .pointer (some ⟨w.heap.size + 1, 0, none⟩), .int .i64 (cl n x : Nat), .pointer (some ⟨b, 0, none⟩), .bool true, .bool false, .pointer (some ⟨b, 0, none⟩), .int .i64 k, .pointer (some ⟨b, 0, none⟩), .int .i64 n, .int .i64 mk, .func (.func 42) #[] #[.pointer (some ⟨w.heap.size + 1 + 1, 0, none⟩)], .int .i64 (cl n x : Nat), undef, undef, undef, undef, undef, undef, undef, undef, undef, undef], defers := [] }) ?assign ?body ?done ?stop)
  case assign =>
    intro l x W K hK
    gi_wp2
    exact hK
  case body =>
    rintro l pre x W ⟨⟨k0, k1⟩, hB⟩ _
    have hx := cl_le n x
    have c0 := k0.cell 0
    have c1 := k1.cell 0
    have f1 := k1.frozen 0
    have hF := h.below hB
    obtain ⟨c, c2, hcn⟩ := hF.cell1
    have c3 := hF.at_ hx
    simp at c0 c1
    have hmx : Try.prog.follows .mixedOrders = true := by kernel_rfl
    gi_wp2
    gi_region_with_o (fail)
    all_goals gi_wp2
    all_goals (try go_bits)
    all_goals
      refine ⟨(KeepsOthers.setCell _ _ _).trans (KeepsOthers.drew _), trivial, ⟨(k0.far (p := ⟨w.heap.size + 1, 0, none⟩) (by simp) _).drew, ?_⟩, (hB.setCell (p := ⟨w.heap.size + 1, 0, none⟩) (by simp) _).drew⟩
      rw [sumD_snoc]
      exact (k1.set_ 0 _).drew
  case done =>
    rintro D ys W hD hys ⟨⟨_, k1⟩, hB⟩ hK
    have c1 := k1.cell 0
    simp at c1
    go_wp2
    refine postM_mark rfl hK (results_tmp rfl _ _ _) ?_
    exact ⟨ys, hys, rfl, below_putObj hB (by simp at hD; omega) (Array.getElem?_eq_some_iff.1 hK).1⟩
  case stop =>
    rintro D c pre W _ _ h _
    exact h.elim

end Go.Proofs.Ytjikfmacdacgaaa
