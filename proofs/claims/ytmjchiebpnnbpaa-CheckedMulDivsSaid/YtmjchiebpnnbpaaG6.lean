/-
  The document's sums and differences, and its order.
-/
import Derived.Test.YtmjchiebpnnbpaaG5
import Derived.Deep.QuietTactic
import Derived.BigQuiet
set_option linter.unusedVariables false
set_option linter.unusedSimpArgs false
namespace Go.Proofs.Ytmjchiebpnnbpaa
open Go.RowKit Go.Shelf

/-- an integer of the document's that is worth x -/
structure Wide (b : Bool) (f : Nat → Int) (x : Int) : Prop where
  dig : Digits f
  val : val b f = x
theorem Wide.mag {b : Bool} {f : Nat → Int} {x : Int} (h : Wide b f x) : mag f = (x.natAbs : Int) := by
  have h1 := mag_in h.dig
  have h2 := h.val
  unfold Proofs.Ytmjchiebpnnbpaa.val at h2
  cases b <;> simp at h2 <;> omega
theorem wide_from {x : Int} (h : Fits x) : Wide (decide (x < 0)) (fromF x) x := ⟨from_digits h, from_val x⟩
theorem from_w (x : Int) (h : Fits x) (w : World) :
    Calls Try.prog 31 #[.int .i64 x] w fun e w' => ∃ b f, e = .returned (.agg (wide b f)) ∧ Wide b f x ∧ f 2 = 0 ∧ f 3 = 0 ∧ f 4 = 0 ∧ f 5 = 0 ∧ Below w.heap.size w w' :=
  (from_ok x h w).mono fun e w' k => ⟨_, _, k.1, wide_from h, rfl, rfl, rfl, rfl, k.2⟩
theorem plus_w {b : Bool} {f : Nat → Int} {c : Bool} {g : Nat → Int} {x y : Int} (hx : Wide b f x) (hy : Wide c g y) (h : (x.natAbs : Int) + y.natAbs < 4294967296 ^ 6) (w : World) :
    Calls Try.prog 30 #[.agg (wide b f), .agg (wide c g)] w fun e w' => ∃ d k, e = .returned (.agg (wide d k)) ∧ Wide d k (x + y) ∧ Below w.heap.size w w' :=
  (plus_ok b f c g hx.dig hy.dig w).mono fun e w' k => ⟨_, _, k.1, ⟨plus_digits b f c g, by rw [plus_val hx.dig hy.dig (by rw [hx.mag, hy.mag]; exact h), hx.val, hy.val]⟩, k.2⟩
theorem negate_w {b : Bool} {f : Nat → Int} {x : Int} (hx : Wide b f x) (w : World) :
    Calls Try.prog 42 #[.agg (wide b f)] w fun e w' => ∃ d k, e = .returned (.agg (wide d k)) ∧ Wide d k (-x) ∧ Below w.heap.size w w' :=
  (negate_ok b f w).mono fun e w' k => ⟨_, _, k.1, ⟨hx.dig, by rw [val_not, hx.val]⟩, k.2⟩
theorem fit_w {b : Bool} {f : Nat → Int} {x : Int} (hx : Wide b f x) (w : World) :
    Calls Try.prog 32 #[.agg (wide b f)] w fun e w' => e = .returned (.tuple #[.int .i64 (fitV x), .int .i64 (fitE x)]) ∧ Below w.heap.size w w' := by
  have := fit_ok b f hx.dig w
  rwa [hx.val] at this
theorem natAbs_le63 {a : Int} (h : Fits a) : (a.natAbs : Int) ≤ 9223372036854775808 := by obtain ⟨h0, h1⟩ := h; omega

set_option maxRecDepth 100000 in
theorem radd_ok (a b : Int) (ha : Fits a) (hb : Fits b) (w : World) :
    Calls Try.prog 23 #[.int .i64 a, .int .i64 b] w fun e w' => e = .returned (.tuple #[.int .i64 (fitV (a + b)), .int .i64 (fitE (a + b))]) ∧ Below w.heap.size w w' := by
  have hlt : (a.natAbs : Int) + b.natAbs < 4294967296 ^ 6 := by have := natAbs_le63 ha; have := natAbs_le63 hb; omega
  have HL := Lib.hid hlt
  clear hlt
  go_enter Try.func23, Try.ntmps23
  go_wp2_with (first
    | (go_at_call 32; refine (fit_w W3 _).mono ?_; rintro e w4 ⟨rfl, hv4⟩)
    | (go_at_call 30; refine (plus_w W1 W2 HL.out _).mono ?_; rintro e w3 ⟨b3, f3, rfl, W3, hv3⟩)
    | (go_at_call 31; have mk := W1; refine (from_w b hb _).mono ?_; rintro e w2 ⟨b2, f2, rfl, W2, _, _, _, _, hv2⟩)
    | (go_at_call 31; refine (from_w a ha _).mono ?_; rintro e w1 ⟨b1, f1, rfl, W1, _, _, _, _, hv1⟩))
  go_ret2
  have q := below_end hv1 hv1.size hv2
  have q := below_end q q.size hv3
  exact ⟨rfl, below_end q q.size hv4⟩

set_option maxRecDepth 100000 in
theorem rsub_ok (a b : Int) (ha : Fits a) (hb : Fits b) (w : World) :
    Calls Try.prog 24 #[.int .i64 a, .int .i64 b] w fun e w' => e = .returned (.tuple #[.int .i64 (fitV (a - b)), .int .i64 (fitE (a - b))]) ∧ Below w.heap.size w w' := by
  have hlt : (a.natAbs : Int) + (-b).natAbs < 4294967296 ^ 6 := by have := natAbs_le63 ha; have := natAbs_le63 hb; omega
  have HL := Lib.hid hlt
  clear hlt
  rw [Int.sub_eq_add_neg]
  go_enter Try.func24, Try.ntmps24
  go_wp2_with (first
    | (go_at_call 32; refine (fit_w W3 _).mono ?_; rintro e w4 ⟨rfl, hv4⟩)
    | (go_at_call 30; refine (plus_w W1 W5 HL.out _).mono ?_; rintro e w3 ⟨b3, f3, rfl, W3, hv3⟩)
    | (go_at_call 42; refine (negate_w W2 _).mono ?_; rintro e w5 ⟨b5, f5, rfl, W5, hv5⟩)
    | (go_at_call 31; have mk := W1; refine (from_w b hb _).mono ?_; rintro e w2 ⟨b2, f2, rfl, W2, _, _, _, _, hv2⟩)
    | (go_at_call 31; refine (from_w a ha _).mono ?_; rintro e w1 ⟨b1, f1, rfl, W1, _, _, _, _, hv1⟩))
  go_ret2
  have q := below_end hv1 hv1.size hv2
  have q := below_end q q.size hv5
  have q := below_end q q.size hv3
  exact ⟨rfl, below_end q q.size hv4⟩

def sg (x : Int) : Int := cmp x 0
theorem sign_case {b : Bool} {f : Nat → Int} {x : Int} (h : Wide b f x) : (isZ f = true ∧ sg x = 0) ∨ (isZ f = false ∧ b = true ∧ sg x = -1) ∨ (isZ f = false ∧ b = false ∧ sg x = 1) := by
  have h1 := h.mag
  have h2 := mag_in h.dig
  have h3 := h.val
  unfold Proofs.Ytmjchiebpnnbpaa.val at h3
  by_cases hz : Proofs.Ytmjchiebpnnbpaa.mag f = 0
  · exact Or.inl ⟨decide_yes hz, cmp_eq (by omega)⟩
  · right
    cases b
    · exact Or.inr ⟨decide_no hz, rfl, cmp_gt (by simp at h3; omega)⟩
    · exact Or.inl ⟨decide_no hz, rfl, cmp_lt (by simp at h3; omega)⟩
set_option maxRecDepth 100000 in
theorem sign_w {b : Bool} {f : Nat → Int} {x : Int} (hx : Wide b f x) (w : World) :
    Calls Try.prog 50 #[.agg (wide b f)] w fun e w' => e = .returned (.int .i64 (sg x)) ∧ Below w.heap.size w w' := by
  have HZ := fun w => zero_ok b f hx.dig w
  have q := fun o => below_new1 w o
  rcases sign_case hx with ⟨h1, h2⟩ | ⟨h1, h2, h3⟩ | ⟨h1, h2, h3⟩
  · rw [h2]
    rw [h1] at HZ
    clear h1 h2 hx
    simp only [wide] at HZ ⊢
    go_enter Try.func50, Try.ntmps50
    go_wp2_with (go_at_call 52; refine (HZ _).mono ?_; rintro e w1 ⟨rfl, hv1⟩)
    go_ret
    exact ⟨rfl, below_end (q _) (q _).size hv1⟩
  · subst h2
    rw [h3]
    rw [h1] at HZ
    have k := fun w => (Blk.new w 48 (wide true f))
    clear h1 h3 hx
    simp only [wide] at HZ k ⊢
    have k := k w
    have q := q (.cells #[.bool true, .int .u64 (f 0), .int .u64 (f 1), .int .u64 (f 2), .int .u64 (f 3), .int .u64 (f 4), .int .u64 (f 5)] 48)
    go_enter Try.func50, Try.ntmps50
    go_wp2_with fail
    refine (HZ _).mono ?_
    rintro e w1 ⟨rfl, hv1⟩
    have k0 := (k.below hv1 k.lt).cell 0
    simp at k0
    go_wp2_with fail
    go_ret
    exact ⟨rfl, below_end q q.size hv1⟩
  · subst h2
    rw [h3]
    rw [h1] at HZ
    have k := fun w => (Blk.new w 48 (wide false f))
    clear h1 h3 hx
    simp only [wide] at HZ k ⊢
    have k := k w
    have q := q (.cells #[.bool false, .int .u64 (f 0), .int .u64 (f 1), .int .u64 (f 2), .int .u64 (f 3), .int .u64 (f 4), .int .u64 (f 5)] 48)
    go_enter Try.func50, Try.ntmps50
    go_wp2_with fail
    refine (HZ _).mono ?_
    rintro e w1 ⟨rfl, hv1⟩
    have k0 := (k.below hv1 k.lt).cell 0
    simp at k0
    go_wp2_with fail
    go_ret
    exact ⟨rfl, below_end q q.size hv1⟩
end Go.Proofs.Ytmjchiebpnnbpaa
