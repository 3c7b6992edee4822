/-
  Refines, pairs, together, Pairs, Rand.
-/
import Derived.Test.YtipniooflaiikaaA5
import Derived.Test.YtipniooflaiikaaD5
import Derived.Test.YtipniooflaiikaaQTail
set_option linter.unusedVariables false
set_option linter.unusedSimpArgs false
namespace Go.Proofs.Ytipniooflaiikaa
open Go.RowKit Go.Shelf

/-- what Refines returns -/
def RefinesOk (w : World) (n m : Nat) (z y : Nat → Int) (e : Ending) (w' : World) : Prop :=
  ((¬ Two n m z y ∧ e = .returned (.tuple #[.bool false, .int .i64 2])) ∨
  (Two n m z y ∧ ∃ v, e = .returned (.tuple #[.bool v, .int .i64 0]) ∧ (∀ a b : Nat → Nat, (∀ i, i < n → z i = (a i : Int)) → (∀ i, i < n → y i = (b i : Int)) → (v = true ↔ Ref a b n)))) ∧ ∃ k, w' = w.drewN k
theorem ref_congr {a b a' b' : Nat → Nat} {n : Nat} (hc : Can a n) (ha : ∀ i, i < n → a i = a' i) (hb : ∀ i, i < n → b i = b' i) : Ref a b n ↔ Ref a' b' n := by
  constructor
  · intro h i hi; have := (hc i hi).1; rw [← ha i hi, ← hb i hi, ← hb _ (by omega)]; exact h i hi
  · intro h i hi; have := (hc i hi).1; have k := h i hi; rw [← ha i hi, ← hb i hi, ← hb _ (by omega)] at k; exact k
set_option maxRecDepth 100000 in
set_option maxHeartbeats 2000000 in
theorem refines_ok (n m c d : Nat) (A B : Option Addr) (z y : Nat → Int) (w : World) (ha : ArgI .i64 w A n c z) (hb : ArgI .i64 w B m d y) (hn : n ≤ 100000) :
    Calls Try.prog 29 #[.slice A n c, .slice B m d] w fun e w' => RefinesOk w n m z y e w' := by
  have x0 := check2_ok n m c d A B z y w ha hb
  go_enter Try.func29, Try.ntmps29
  go_wp2_with fail
  refine x0.mono ?_
  rintro e w' ⟨⟨rfl, h1⟩ | ⟨rfl, h1⟩, rfl⟩
  case inr =>
    have H1 := Lib.hid h1
    clear h1
    go_wp2_with fail
    go_ret2
    exact ⟨Or.inl ⟨H1.out, rfl⟩, 0, rfl⟩
  obtain ⟨a, b, hnm, hca, hcb, ea, eb⟩ := h1.nat
  subst hnm
  have H1 := Lib.hid h1
  have HCA := Lib.hid hca
  have HE := Lib.hid (And.intro ea eb)
  have fin : ∀ v : Bool, (v = true ↔ Ref a b n) → ∀ a' b' : Nat → Nat, (∀ i, i < n → z i = (a' i : Int)) → (∀ i, i < n → y i = (b' i : Int)) → (v = true ↔ Ref a' b' n) := fun v hv a' b' h1 h2 =>
    hv.trans (ref_congr hca (fun i hi => by have := ea i hi; have := h1 i hi; omega) (fun i hi => by have := eb i hi; have := h2 i hi; omega))
  have FIN := Lib.hid fin
  clear h1 hca hcb ea eb x0 fin
  go_wp2_with fail
  go_loopw [7, 8, 17] (fun _ _ vi wr => ∃ i : Nat, vi = .int .i64 i ∧ i ≤ n ∧ Hid (Ref a b i) ∧ ∃ k, wr = w.drewN k) (fun _ _ vi _ => n - (intOf vi).toNat)
  case atStart => exact ⟨0, rfl, Nat.zero_le _, Lib.hid (fun i hi => by omega), 0, rfl⟩
  case round =>
    obtain ⟨i, rfl, hi, HR, k, rfl⟩ := hrel
    by_cases hlt : i < n
    · have hin : (i : Int) < (n : Int) := by omega
      obtain ⟨g, o, rfl, hg, hc⟩ := ha.2.2.1 (by omega)
      obtain ⟨g', o', rfl, hg', hc'⟩ := hb.2.2.1 (by omega)
      have hcA := ha.1
      have hcB := hb.1
      have ci := hc i hlt
      rw [HE.out.1 i hlt] at ci
      have hai := (HCA.out i hlt).1
      obtain ⟨l, hl⟩ : ∃ l, a i = l := ⟨_, rfl⟩
      rw [hl] at ci hai
      have hln : (l : Int) < (n : Int) := by omega
      have cb := hc' i hlt
      have cl := hc' l (by omega)
      rw [HE.out.2 i hlt] at cb
      rw [HE.out.2 l (by omega)] at cl
      obtain ⟨x, hx⟩ : ∃ x, b i = x := ⟨_, rfl⟩
      obtain ⟨u, hu⟩ : ∃ x, b l = x := ⟨_, rfl⟩
      rw [hx] at cb
      rw [hu] at cl
      have HX := Lib.hid (And.intro hl (And.intro hx hu))
      clear hl hx hu hc hc'
      by_cases hxu : x = u
      · have HR2 := Lib.hid (show Ref a b (i + 1) from fun j hj => by
          rcases Nat.lt_or_ge j i with h1 | h1
          · exact HR.out j h1
          · obtain rfl : j = i := by omega
            rw [HX.out.1, HX.out.2.1, HX.out.2.2]; exact hxu.symm)
        subst hxu
        go_wp2_with fail
        go_quiet (fail)
        go_wp2_with fail
        go_roundw
        case rel => exact ⟨i + 1, by simp, by omega, HR2, k + nq, by first | rfl | simp⟩
        case measure => simp [intOf]; omega
      · have HN := Lib.hid (show ¬ Ref a b n from fun h => hxu (by have := h i hlt; rw [HX.out.1, HX.out.2.1, HX.out.2.2] at this; exact this.symm))
        have e1 : ((x : Int) == (u : Int)) = false := by simp; omega
        have e2 : ¬ (x : Int) = (u : Int) := by omega
        clear hxu
        go_wp2_with fail
        go_quiet (fail)
        go_wp2_with fail
        go_ret2
        exact ⟨Or.inr ⟨H1.out, false, rfl, FIN.out false ⟨(fun h => by cases h), fun h => (HN.out h).elim⟩⟩, k + nq, by first | rfl | simp⟩
    · have hin : ¬ (i : Int) < (n : Int) := by omega
      have HR2 := Lib.hid (show Ref a b n from by have h := HR.out; rw [show i = n by omega] at h; exact h)
      go_wp2_with fail
      go_ret2
      exact ⟨Or.inr ⟨H1.out, true, rfl, FIN.out true ⟨fun _ => HR2.out, fun _ => rfl⟩⟩, k, rfl⟩

theorem md_half {n : Nat} (h2 : 2 ≤ n) (hn : n ≤ 1000) : mdV n ((n : Int) - 1) 2 = (half n : Int) := by
  have hb := half_bound hn
  have e : (n : Int) * ((n : Int) - 1) / 2 = (half n : Int) := by
    unfold half
    rw [show (n : Int) - 1 = ((n - 1 : Nat) : Int) by omega, ← Int.natCast_mul]
    omega
  unfold mdV
  rw [if_neg (by decide), e]
  exact fitV_in ⟨by omega, by omega⟩
set_option maxRecDepth 100000 in
theorem pairs_ok (n : Nat) (hn : n ≤ 1000) (w : World) : Calls Try.prog 38 #[.int .i64 n] w fun e w' => e = .returned (.int .i64 (half n)) ∧ Below w.heap.size w w' := by
  by_cases h : n < 2
  · have e : half n = 0 := by
      rcases n with _ | _ | n
      · rfl
      · rfl
      · omega
    rw [e]
    have hi : (n : Int) < 2 := by omega
    clear e
    go_enter Try.func38, Try.ntmps38
    go_wp2_with fail
    go_ret
    exact ⟨rfl, Below.refl _ _⟩
  · have hi : ¬ (n : Int) < 2 := by omega
    have x0 := md_ok n ((n : Int) - 1) 2 ⟨by omega, by omega⟩ ⟨by omega, by omega⟩ ⟨by decide, by decide⟩ w
    rw [md_half (by omega) hn] at x0
    go_enter Try.func38, Try.ntmps38
    go_wp2_with (go_at_call 48; refine x0.mono ?_; rintro e w1 ⟨rfl, hv⟩)
    go_ret
    exact ⟨rfl, hv⟩
theorem sm_le (f : Nat → Nat) {i n : Nat} (h : i ≤ n) : sm f i ≤ sm f n := by
  induction n with
  | zero => obtain rfl : i = 0 := by omega
            exact Nat.le_refl _
  | succ n ih =>
    rcases Nat.lt_or_ge i (n + 1) with k | k
    · have := ih (by omega); simp only [sm]; omega
    · obtain rfl : i = n + 1 := by omega
      exact Nat.le_refl _
set_option maxRecDepth 100000 in
set_option maxHeartbeats 2000000 in
theorem together_ok (n c : Nat) (A : Option Addr) (a : Nat → Nat) (w : World) (ha : ArgI .i64 w A n c (fun i => (a i : Int))) (hl : ∀ i, i < n → a i < n) (hn : n ≤ 1000) :
    Calls Try.prog 36 #[.slice A n c] w fun e w' => e = .returned (.int .i64 (pr (sameL a) n)) ∧ Below w.heap.size w w' := by
  have hmk : ∀ W : World, (Instr.makeSlice 22 (.int .i64 (n : Int)) (.int .i64 (n : Int))).run Try.prog W = .ok (.slice (some ⟨W.heap.size, 0, none⟩) n n) (W.alloc (.cells (zerosK .i64 n) 3)) := fun W => run_make22 n (by omega) W
  have r0 : RowN (w.alloc (.cells (zerosK .i64 n) 3)) w.heap.size n (size a 0) := (RowF.new .i64 w 3 n).congr (fun i hi => rfl)
  have q0 := below_new1 w (.cells (zerosK .i64 n) 3)
  have HL := Lib.hid hl
  have hb := half_bound hn
  have HP := Lib.hid (pairs_by a n n hl)
  have hpl := pr_le (sameL a) n
  clear hl
  go_enter Try.func36, Try.ntmps36
  go_upto_region 2 with fail
  generalize w.alloc (.cells (zerosK .i64 n) 3) = W0 at *
  clear hmk
  go_wp2_with fail
  go_loopw [5, 14] (fun _ vi wr => ∃ i : Nat, vi = .int .i64 i ∧ i ≤ n ∧ RowN wr w.heap.size n (size a i) ∧ Below w.heap.size w wr) (fun _ vi _ => n - (intOf vi).toNat)
  case atStart => exact ⟨0, rfl, Nat.zero_le _, r0, q0⟩
  case round =>
    clear r0 q0
    obtain ⟨i, rfl, hi, hr, q⟩ := hrel
    by_cases hlt : i < n
    · have hin : (i : Int) < (n : Int) := by omega
      have haw := ha.below q
      obtain ⟨g, o, rfl, hg, hc⟩ := haw.2.2.1 (by omega)
      have hcA := haw.1
      have ci := hc i hlt
      have hai := HL.out i hlt
      have hss : ∀ k, size a (i + 1) k = upd (size a i) (a i) (size a i (a i) + 1) k := fun k => by
        rw [size_succ]
        by_cases e : k = a i
        · subst e; rw [upd_at, if_pos rfl]
        · rw [upd_ne _ _ e, if_neg e]; rfl
      have HS := Lib.hid hss
      have hrc := hr.cell hai
      have hrz := hr.frozen (a i)
      have hsl := size_le a i (a i)
      obtain ⟨l, hl⟩ : ∃ l, a i = l := ⟨_, rfl⟩
      simp only [hl] at ci hai HS hrc hrz hsl
      obtain ⟨x, hx⟩ : ∃ x, size a i l = x := ⟨_, rfl⟩
      rw [hx] at hrc hsl HS
      have hln : (l : Int) < (n : Int) := by omega
      have hq := q.size
      clear hss hl hx hc
      go_wp2_with fail
      have R := (hr.set_n l (x + 1)).congr (fun j hj => by rw [← HS.out j])
      have Q := q.setCell (p := ⟨w.heap.size, l, none⟩) (Nat.le_refl _) (.int .i64 ((x + 1 : Nat) : Int))
      go_roundw
      case rel => exact ⟨i + 1, by simp, by omega, R, Q⟩
      case measure => simp [intOf]; omega
    · have hin : ¬ (i : Int) < (n : Int) := by omega
      have hie : i = n := by omega
      have hr2 : RowN wr w.heap.size n (size a n) := by rw [hie] at hr; exact hr
      clear hr hie hlt hi
      obtain ⟨wo, ewo⟩ : ∃ wo : World, wo = wr := ⟨_, rfl⟩
      subst ewo
      go_wp2_with fail
      go_loopw [6, 8, 27] (fun vs _ vi wr => ∃ i : Nat, vi = .int .i64 i ∧ i ≤ n ∧ vs = .int .i64 (sm (fun k => half (size a n k)) i) ∧ RowN wr w.heap.size n (size a n) ∧ Below w.heap.size w wr) (fun _ _ vi _ => n - (intOf vi).toNat)
      case atStart => exact ⟨0, rfl, Nat.zero_le _, rfl, hr2, q⟩
      case round =>
        clear hr2 q
        obtain ⟨i, rfl, hi, rfl, hr, q⟩ := hrel
        by_cases hlt : i < n
        · have hin : (i : Int) < (n : Int) := by omega
          have hrc := hr.cell hlt
          have hsl := size_le a n i
          have s1 := sm_le (fun k => half (size a n k)) (show i + 1 ≤ n by omega)
          rw [HP.out] at s1
          have HS := Lib.hid (show sm (fun k => half (size a n k)) i + half (size a n i) = sm (fun k => half (size a n k)) (i + 1) from rfl)
          obtain ⟨v, hv⟩ : ∃ v, sm (fun k => half (size a n k)) (i + 1) = v := ⟨_, rfl⟩
          obtain ⟨u, hu⟩ : ∃ v, sm (fun k => half (size a n k)) i = v := ⟨_, rfl⟩
          rw [hv] at s1 HS
          rw [hu] at HS
          rw [hu]
          have HV := Lib.hid hv
          obtain ⟨x, hx⟩ : ∃ x, size a n i = x := ⟨_, rfl⟩
          rw [hx] at hrc hsl HS
          have x0 := pairs_ok x (by omega) wr
          obtain ⟨t, ht⟩ : ∃ t, half x = t := ⟨_, rfl⟩
          rw [ht] at HS x0
          have hut := HS.out
          have huv : (u : Int) + (t : Int) = (v : Int) := by omega
          clear hv hu hx ht hut
          go_wp2_with (go_at_call 38; refine x0.mono ?_; rintro e w1 ⟨rfl, hv1⟩)
          have hr1 := hr.below' hv1
          have q1 := below_end q q.size hv1
          go_roundw
          case rel => exact ⟨i + 1, by simp, by omega, by rw [HV.out], hr1, q1⟩
          case measure => simp [intOf]; omega
        · have hin : ¬ (i : Int) < (n : Int) := by omega
          have hie : i = n := by omega
          have hsm : sm (fun k => half (size a n k)) i = pr (sameL a) n := by rw [hie]; exact HP.out
          rw [hsm]
          clear hie hsm
          go_wp2_with fail
          go_ret
          exact ⟨rfl, q⟩
end Go.Proofs.Ytipniooflaiikaa
