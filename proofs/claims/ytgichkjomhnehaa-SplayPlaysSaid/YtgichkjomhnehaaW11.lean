/-
  Sequences in memory, by what they stand for; lift in these words; check.
-/
import Derived.Test.YtgichkjomhnehaaM5
import Derived.Test.YtgichkjomhnehaaW10
set_option linter.unusedVariables false
set_option linter.unusedSimpArgs false
namespace Go.Proofs.Ytgichkjomhnehaa
open Go.RowKit Go.Shelf

/-- sequences of n nodes: node x is in the sequence Q x and has the value U x -/
def SQ (w : World) (b s n : Nat) (Q : Nat → List Nat) (U : Nat → Int) : Prop :=
  n ≤ 65536 ∧ ∃ st V S F, SP w b s n st ∧ Sq V st n S F ∧ Fit V ∧ (∀ x, x < n → S (x + 1) = (Q x).map (· + 1)) ∧ ∀ x, x < n → V (x + 1) = U x
/-- the same; x is the root of its tree -/
def Up (w : World) (b s n : Nat) (Q : Nat → List Nat) (U : Nat → Int) (x : Nat) (st : Nat → Nd) (V : Nat → Int) (S : Nat → List Nat) (l r : T) (F : List T) : Prop :=
  n ≤ 65536 ∧ SP w b s n st ∧ Sq V st n S (.node l (x + 1) false r :: F) ∧ Fit V ∧ (∀ x, x < n → S (x + 1) = (Q x).map (· + 1)) ∧ ∀ x, x < n → V (x + 1) = U x
section
variable {w w' : World} {b s n x : Nat} {Q : Nat → List Nat} {U : Nat → Int} {st : Nat → Nd} {V : Nat → Int} {S : Nat → List Nat} {l r : T} {F : List T}
theorem Up.sq (h : Up w b s n Q U x st V S l r F) : SQ w b s n Q U := ⟨h.1, st, V, S, _, h.2⟩
theorem Up.at_ (h : Up w b s n Q U x st V S l r F) : x < n := by
  have := (h.2.2.1.1.all (x + 1)).1 (by rw [allIds_cons]; simp [T.ids])
  omega
theorem Up.seq (h : Up w b s n Q U x st V S l r F) : (Q x).map (· + 1) = l.seq ++ (x + 1) :: r.seq := by
  rw [← h.2.2.2.2.1 x h.at_, h.2.2.1.2 (.node l (x + 1) false r) (by simp) (x + 1) (by simp [T.ids])]
  rfl
theorem SQ.lt (h : SQ w b s n Q U) : b < w.heap.size ∧ s < w.heap.size ∧ b ≠ s := by
  obtain ⟨_, st, V, S, F, h1, _⟩ := h
  exact ⟨h1.lt.1, h1.lt.2, h1.ne⟩
theorem SQ.below (h : SQ w b s n Q U) (hb : Below w.heap.size w w') : SQ w' b s n Q U := by
  obtain ⟨h0, st, V, S, F, h1, h2⟩ := h
  exact ⟨h0, st, V, S, F, h1.below hb, h2⟩
theorem SQ.turns {P : Nat → Prop} (h : SQ w b s n Q U) (ht : Turns P w w') (k1 : ¬ P b) (k2 : ¬ P s) : SQ w' b s n Q U := by
  obtain ⟨h0, st, V, S, F, h1, h2⟩ := h
  exact ⟨h0, st, V, S, F, h1.turns ht k1 k2, h2⟩
theorem SQ.congr {Q' : Nat → List Nat} {U' : Nat → Int} (h : SQ w b s n Q U) (hQ : ∀ x, x < n → Q x = Q' x) (hU : ∀ x, x < n → U x = U' x) : SQ w b s n Q' U' := by
  obtain ⟨h0, st, V, S, F, h1, h2, h3, h4, h5⟩ := h
  exact ⟨h0, st, V, S, F, h1, h2, h3, fun x hx => by rw [h4 x hx, hQ x hx], fun x hx => by rw [h5 x hx, hU x hx]⟩
theorem succ_inj : ∀ {a c : List Nat}, a.map (· + 1) = c.map (· + 1) → a = c
  | [], [], _ => rfl
  | [], _ :: _, h => by simp at h
  | _ :: _, [], h => by simp at h
  | x :: a, y :: c, h => by
    simp only [List.map_cons, List.cons.injEq] at h
    obtain rfl : x = y := by omega
    rw [succ_inj h.2]
/-- what sequences are -/
theorem SQ.abs (h : SQ w b s n Q U) (hx : x < n) : x ∈ Q x ∧ (Q x).Nodup ∧ ∀ y ∈ Q x, y < n ∧ Q y = Q x := by
  obtain ⟨h0, st, V, S, F, h1, h2, h3, h4, h5⟩ := h
  obtain ⟨k1, k2, k3⟩ := h2.seq (x := x + 1) (by omega) (by omega)
  rw [h4 x hx] at k1 k2 k3
  refine ⟨?_, (List.pairwise_map.1 k2).imp (fun h e => h (by rw [e])), fun y hy => ?_⟩
  · obtain ⟨y, hy, e⟩ := List.mem_map.1 k1
    obtain rfl : y = x := by simpa using e
    exact hy
  · obtain ⟨j1, j2, j3⟩ := k3 (y + 1) (List.mem_map.2 ⟨y, hy, rfl⟩)
    have hyn : y < n := by omega
    rw [h4 y hyn] at j3
    exact ⟨hyn, succ_inj j3⟩
theorem SQ.fit (h : SQ w b s n Q U) (hx : x < n) : Fits (U x) := by
  obtain ⟨h0, st, V, S, F, h1, h2, h3, h4, h5⟩ := h
  rw [← h5 x hx]
  exact h3 _
end
set_option maxRecDepth 100000 in
theorem liftQ_ok (b s n : Nat) (Q : Nat → List Nat) (U : Nat → Int) (x : Nat) (w : World) (h : SQ w b s n Q U) (hx : x < n) :
    Calls Try.prog 39 #[.pointer (some ⟨b, 0, none⟩), .int .i64 (x : Int)] w fun e w' => e = .returned (.pointer (some ⟨s, (x + 1) * 9, none⟩)) ∧ (∃ st V S l r F, Up w' b s n Q U x st V S l r F) ∧ Turns (· = s) w w' := by
  obtain ⟨h0, st, V, S, F, h1, h2, h3, h4, h5⟩ := h
  obtain ⟨t, G, hS, ht⟩ := h2.focus (x := x + 1) (by omega) (by omega)
  obtain ⟨hw, hE⟩ := hS.1.env h3 h0
  refine (lift_ok b s n st (x + 1) (x : Int) V t _ _ w h1 h0 hw hE ht (by omega)).mono ?_
  rintro e w' ⟨rfl, ⟨st', k1, ⟨l, r, k2⟩, k3, k4⟩, hT⟩
  exact ⟨rfl, ⟨st', V, S, l, r, G, h0, k1, hS.same k2 k3, h3, h4, h5⟩, hT⟩
/-- how Has answers, of sequences -/
theorem hasQ_ok (b s n : Nat) (Q : Nat → List Nat) (U : Nat → Int) (x : Int) (w : World) (h : SQ w b s n Q U) :
    Calls Try.prog 38 #[.pointer (some ⟨b, 0, none⟩), .int .i64 x] w fun e w' => e = .returned (.bool (hasB n x)) ∧ w = w' := by
  obtain ⟨h0, st, V, S, F, h1, _⟩ := h
  exact has_ok b s n st x w h1 h0
theorem validQ_ok (b s n : Nat) (Q : Nat → List Nat) (U : Nat → Int) (w : World) (h : SQ w b s n Q U) :
    Calls Try.prog 45 #[.pointer (some ⟨b, 0, none⟩)] w fun e w' => e = .returned (.bool true) ∧ w = w' := by
  obtain ⟨h0, st, V, S, F, h1, _⟩ := h
  exact valid_ok b s n st w h1
set_option maxRecDepth 100000 in
theorem check_no (p : Option Addr) (A : Option Addr) (m c : Nat) (w : World) (h : NoSeqs w p) :
    Calls Try.prog 41 #[.pointer p, .slice A m c] w fun e w' => e = .returned (.int .i64 1) ∧ w = w' := by
  have x0 := valid_no p w h
  go_enter Try.func41, Try.ntmps41
  go_wp2_with fail
  refine x0.mono ?_
  rintro e w' ⟨rfl, rfl⟩
  go_wp2_with fail
  go_ret
  exact ⟨rfl, rfl⟩
set_option maxRecDepth 100000 in
theorem check_ok (b s n : Nat) (Q : Nat → List Nat) (U : Nat → Int) (A : Option Addr) (m c : Nat) (z : Nat → Int) (w : World) (h : SQ w b s n Q U) (ha : ArgI .i64 w A m c z) :
    Calls Try.prog 41 #[.pointer (some ⟨b, 0, none⟩), .slice A m c] w fun e w' => ((e = .returned (.int .i64 0) ∧ ∀ i, i < m → hasB n (z i) = true) ∨ (e = .returned (.int .i64 3) ∧ ∃ i, i < m ∧ hasB n (z i) = false)) ∧ w = w' := by
  have x0 := validQ_ok b s n Q U w h
  have hm63 := ha.2.1
  have hmc := ha.1
  go_enter Try.func41, Try.ntmps41
  go_wp2_with fail
  refine x0.mono ?_
  rintro e w' ⟨rfl, rfl⟩
  go_wp2_with fail
  go_loop [6, 12] (fun _ vi => ∃ i : Nat, vi = .int .i64 i ∧ i ≤ m ∧ Hid (∀ j, j < i → hasB n (z j) = true)) (fun _ vi => m - (intOf vi).toNat)
  case atStart => exact ⟨0, rfl, Nat.zero_le _, Lib.hid (fun j hj => by omega)⟩
  case round =>
    obtain ⟨i, rfl, hi, HJ⟩ := hrel
    by_cases hlt : i < m
    · obtain ⟨g, o, rfl, hg, hc⟩ := ha.2.2.1 (by omega)
      have ci := hc i hlt
      have him : (i : Int) < (m : Int) := by omega
      obtain ⟨u, hu⟩ : ∃ u, z i = u := ⟨_, rfl⟩
      rw [hu] at ci
      have xh := hasQ_ok b s n Q U u w h
      obtain ⟨v, hv⟩ : ∃ v, hasB n u = v := ⟨_, rfl⟩
      rw [hv] at xh
      have HV := Lib.hid (show hasB n (z i) = v by rw [hu]; exact hv)
      clear hc hu hv
      go_wp2_with fail
      refine xh.mono ?_
      rintro e w' ⟨rfl, rfl⟩
      cases v with
      | true =>
        have HJ2 := Lib.hid (show ∀ j, j < i + 1 → hasB n (z j) = true from fun j hj => by
          rcases Nat.lt_or_ge j i with h1 | h1
          · exact HJ.out j h1
          · obtain rfl : j = i := by omega
            exact HV.out)
        go_wp2_with fail
        go_round
        case rel => exact ⟨i + 1, by simp, by omega, HJ2⟩
        case measure => simp [intOf]; omega
      | false =>
        go_wp2_with fail
        go_ret
        exact ⟨Or.inr ⟨rfl, i, hlt, HV.out⟩, rfl⟩
    · obtain rfl : i = m := by omega
      have HJ3 := HJ
      go_wp2_with fail
      go_ret
      exact ⟨Or.inl ⟨rfl, HJ3.out⟩, rfl⟩
end Go.Proofs.Ytgichkjomhnehaa
