/-
  The references: Next.
-/
import Derived.Test.YtipniooflaiikaaE1
import Derived.Test.YtipniooflaiikaaA8
set_option linter.unusedVariables false
set_option linter.unusedSimpArgs false
namespace Go.Proofs.Ytipniooflaiikaa
open Go.RowKit Go.Shelf

theorem nx_can {a : Nat → Nat} {n t v : Nat} (ha : Can a n) (ht : t < n) (h1 : a t < v) (h2 : v ≤ t) : Can (nx a t v) n ↔ (v = t ∨ a v = v) := by
  have e1 : ∀ j, j < t → nx a t v j = a j := fun j hj => if_pos hj
  have e2 : nx a t v t = v := by unfold nx; rw [if_neg (Nat.lt_irrefl t), if_pos rfl]
  have e3 : ∀ j, t < j → nx a t v j = 0 := fun j hj => by unfold nx; rw [if_neg (by omega), if_neg (by omega)]
  have h0 : a 0 = 0 := by have := (ha 0 (by omega)).1; omega
  constructor
  · intro h
    have h3 := (h t ht).2
    rw [e2] at h3
    rcases Nat.lt_or_ge v t with h4 | h4
    · rw [e1 v h4] at h3; exact Or.inr h3
    · exact Or.inl (by omega)
  · intro h j hj
    rcases Nat.lt_trichotomy j t with h3 | h3 | h3
    · have h4 := ha j hj
      rw [e1 j h3, e1 (a j) (by omega)]
      exact h4
    · subst h3
      rw [e2]
      refine ⟨h2, ?_⟩
      rcases h with h | h
      · rw [h] at e2 ⊢; exact e2
      · rcases Nat.lt_or_ge v j with h4 | h4
        · rw [e1 v h4]; exact h
        · rw [show v = j by omega] at e2 ⊢; exact e2
    · rw [e3 j h3, e1 0 (by omega)]
      exact ⟨Nat.zero_le _, h0⟩
theorem nx_le {a : Nat → Nat} {n t v : Nat} (ha : Can a n) (h2 : v ≤ t) : ∀ j, j < n → nx a t v j ≤ j := fun j hj => by
  have := (ha j hj).1
  unfold nx
  split
  · exact this
  · split <;> omega
/-- what the reference's Next returns -/
def RNextOk (w : World) (n : Nat) (z : Nat → Int) (e : Ending) (w' : World) : Prop :=
  ((¬ CanZ z n ∨ ∀ i, i < n → z i = (i : Int)) ∧ e = .returned (.tuple #[.slice none 0 0, .bool false]) ∧ Below w.heap.size w w') ∨
  (∃ (a : Nat → Nat) (t v : Nat) (A' : Option Addr) (c' : Nat), Can a n ∧ (∀ i, i < n → z i = (a i : Int)) ∧ NextIs a n t v ∧ e = .returned (.tuple #[.slice A' n c', .bool true]) ∧ ArgI .i64 w' A' n c' (fun i => (nx a t v i : Int)) ∧ Below w.heap.size w w')
set_option maxRecDepth 100000 in
set_option maxHeartbeats 4000000 in
theorem rnext_ok (n c : Nat) (A : Option Addr) (z : Nat → Int) (w : World) (ha : ArgI .i64 w A n c z) (hn : n ≤ 1000) :
    Calls Try.prog 19 #[.slice A n c] w fun e w' => RNextOk w n z e w' := by
  have x0 := rcheck_ok n c A z w ha hn
  have hn63 := ha.2.1
  have hnc := ha.1
  go_enter Try.func19, Try.ntmps19
  go_wp2_with fail
  refine x0.mono ?_
  rintro e w1 ⟨⟨rfl, h1⟩ | ⟨rfl, h1⟩, q⟩
  case inr =>
    have H1 := Lib.hid h1
    clear h1
    go_wp2_with fail
    go_ret2
    exact Or.inl ⟨Or.inl H1.out, rfl, q⟩
  obtain ⟨a, hca, ea⟩ := h1.nat
  have HCA := Lib.hid hca
  have HE := Lib.hid ea
  clear h1 hca ea x0
  go_wp2_with fail
  go_loopw [4, 5, 6, 7] (fun vi _ _ _ wr => ∃ t : Nat, vi = .int .i64 ((t : Int) - 1) ∧ t ≤ n ∧ Hid (∀ i, t ≤ i → i < n → a i = i) ∧ Below w.heap.size w wr) (fun vi _ _ _ _ => (intOf vi + 1).toNat)
  case atStart => exact ⟨n, by simp, Nat.le_refl _, Lib.hid (fun i h1 h2 => by omega), q⟩
  case round =>
    clear q
    obtain ⟨t, rfl, ht, HL, q⟩ := hrel
    rcases t with _ | p
    · have HA := Lib.hid (show ∀ i, i < n → z i = (i : Int) from fun i hi => by rw [HE.out i hi, HL.out i (Nat.zero_le _) hi])
      go_wp2_with fail
      go_ret2
      exact Or.inl ⟨Or.inr HA.out, rfl, q⟩
    · have hqe : ((p + 1 : Nat) : Int) - 1 = (p : Int) := by omega
      rw [hqe]
      have hp0 : (0 : Int) ≤ (p : Int) := by omega
      have hpn : (p : Int) < (n : Int) := by omega
      have ha1 := ha.below q
      obtain ⟨g, o, rfl, hg, hc⟩ := ha1.2.2.1 (by omega)
      have cp := hc p (by omega)
      rw [HE.out p (by omega)] at cp
      have hap := (HCA.out p (by omega)).1
      obtain ⟨u, hu⟩ : ∃ u, a p = u := ⟨_, rfl⟩
      rw [hu] at cp hap
      have HU := Lib.hid hu
      clear hc ha1 hg hu hqe
      go_wp2_with fail
      clear cp
      go_loopw [5, 6, 7] (fun vv _ _ wr => ∃ v : Nat, vv = .int .i64 v ∧ u < v ∧ v ≤ p + 1 ∧ Hid (∀ x, u < x → x < v → ¬ (x = p ∨ a x = x)) ∧ Below w.heap.size w wr) (fun vv _ _ _ => p + 1 - (intOf vv).toNat)
      case atStart => exact ⟨u + 1, by simp, by omega, by omega, Lib.hid (fun x h1 h2 => by omega), q⟩
      case round =>
        clear q
        obtain ⟨v, rfl, huv, hvp, HX, q⟩ := hrel
        by_cases hle : v ≤ p
        · have hvi : (v : Int) ≤ (p : Int) := by omega
          have HN := Lib.hid (And.intro (nx_le (v := v) HCA.out hle) (nx_can HCA.out (show p < n by omega) (show a p < v by rw [HU.out]; exact huv) hle))
          have HF := Lib.hid (show ∀ j, j < n → Fits (nx a p v j : Int) from fun j hj => by have := HN.out.1 j hj; exact ⟨by omega, by omega⟩)
          go_wp2_with fail
          go_loopw [6, 7] (fun vo vj wr => ∃ (j : Nat) (A1 : Option Addr) (d1 : Nat), vo = .slice A1 j d1 ∧ vj = .int .i64 j ∧ j ≤ n ∧ wr.ownsRow w.heap.size 3 1 (.slice A1 j d1) j (vals (fun i => (nx a p v i : Int)) j) ∧ Below w.heap.size w wr) (fun _ vj _ => n - (intOf vj).toNat)
          case atStart => exact ⟨0, none, 0, rfl, rfl, Nat.zero_le _, World.ownsRow_nil _ _ _ _, q⟩
          case round =>
            clear q
            obtain ⟨j, A1, d1, rfl, rfl, hj, ho, q⟩ := hrel
            have hq := q.size
            by_cases hlt : j < n
            · have hjn : (j : Int) < (n : Int) := by omega
              obtain ⟨x, hx⟩ : ∃ x : Nat, nx a p v j = x := ⟨_, rfl⟩
              have HC := Lib.hid (And.intro (cat_one (fun i => (nx a p v i : Int)) j (show ((nx a p v j : Nat) : Int) = (x : Int) by rw [hx])) (fun i (hi : i < j + 1) => HF.out i (by omega)))
              have hfx : Fits (x : Int) := by rw [← hx]; exact HF.out j hlt
              have hoA : (wr.alloc (.cells #[.int .i64 (x : Int)] 3)).ownsRow w.heap.size 3 1 (.slice A1 j d1) j (vals (fun i => (nx a p v i : Int)) j) := own_below ho (below_new1 wr _)
              have hxA : ArgI .i64 (wr.alloc (.cells #[.int .i64 (x : Int)] 3)) (some ⟨wr.heap.size, 0, none⟩) 1 1 (fun _ => (x : Int)) := argI_one wr x hfx
              have HOB := Lib.hid (own_base ho)
              have qA : Below w.heap.size w (wr.alloc (.cells #[.int .i64 (x : Int)] 3)) := q.alloc hq _
              have hzA : w.heap.size ≤ (wr.alloc (.cells #[.int .i64 (x : Int)] 3)).heap.size := by simp; omega
              have ha1 := ha.below q
              obtain ⟨g', o', e', hg', hc⟩ := ha1.2.2.1 (by omega)
              cases e'
              have cj := hc j hlt
              rw [HE.out j hlt] at cj
              have fin : ∀ (v' : Value) (w3 : World), w3.ownsRow w.heap.size 3 1 v' (j + 1) (vals (cat (fun i => (nx a p v i : Int)) j (fun _ => (x : Int))) (j + 1)) → (wr.alloc (.cells #[.int .i64 (x : Int)] 3)).grownBy w3 (Value.slice A1 j d1).ownBlock → ∃ A2 d2, v' = .slice A2 (j + 1) d2 ∧ w3.ownsRow w.heap.size 3 1 (.slice A2 (j + 1) d2) (j + 1) (vals (fun i => (nx a p v i : Int)) (j + 1)) ∧ Below w.heap.size w w3 := fun v' w3 hown hgrow => by
                rw [vals_ext HC.out.1] at hown
                have hb3 := qA.grown hgrow hzA HOB.out
                obtain ⟨A2, d2, rfl, _⟩ := own_arg hown HC.out.2
                exact ⟨A2, d2, rfl, hown, hb3⟩
              have FIN := Lib.hid fin
              clear hc ha1 hg' hfx ho fin
              rcases Nat.lt_trichotomy j p with h1 | h1 | h1
              · have hjp : (j : Int) < (p : Int) := by omega
                have hxe : a j = x := by rw [← hx]; exact (if_pos h1).symm
                rw [hxe] at cj
                clear hx hxe h1
                go_wp2_with (at_builtin; refine wpList_append_ints rfl _ _ rfl w.heap.size (.slice A1 j d1) j (fun i => (nx a p v i : Int)) rfl hoA (some ⟨wr.heap.size, 0, none⟩) 1 1 (fun _ => (x : Int)) rfl hxA (fun h => by cases h) (by omega) hzA ?_; intro v' w3 hown hgrow; obtain ⟨A2, d2, rfl, hown2, hb3⟩ := FIN.out v' w3 hown hgrow; clear hown hgrow)
                go_roundw
                case rel => exact ⟨j + 1, A2, d2, rfl, by simp, by omega, hown2, hb3⟩
                case measure => simp [intOf]; omega
              · subst h1
                have hjp : ¬ (j : Int) < (j : Int) := by omega
                have hxe : v = x := by rw [← hx]; unfold nx; rw [if_neg (Nat.lt_irrefl j), if_pos rfl]
                subst hxe
                clear hx cj
                go_wp2_with (at_builtin; refine wpList_append_ints rfl _ _ rfl w.heap.size (.slice A1 j d1) j (fun i => (nx a j v i : Int)) rfl hoA (some ⟨wr.heap.size, 0, none⟩) 1 1 (fun _ => (v : Int)) rfl hxA (fun h => by cases h) (by omega) hzA ?_; intro v' w3 hown hgrow; obtain ⟨A2, d2, rfl, hown2, hb3⟩ := FIN.out v' w3 hown hgrow; clear hown hgrow)
                go_roundw
                case rel => exact ⟨j + 1, A2, d2, rfl, by simp, by omega, hown2, hb3⟩
                case measure => simp [intOf]; omega
              · have hjp : ¬ (j : Int) < (p : Int) := by omega
                have hjp2 : ((j : Int) == (p : Int)) = false := by simp; omega
                have hjp3 : ¬ (j : Int) = (p : Int) := by omega
                have hxe : x = 0 := by rw [← hx]; unfold nx; rw [if_neg (by omega), if_neg (by omega)]
                subst hxe
                clear hx cj h1
                go_wp2_with (at_builtin; refine wpList_append_ints rfl _ _ rfl w.heap.size (.slice A1 j d1) j (fun i => (nx a p v i : Int)) rfl hoA (some ⟨wr.heap.size, 0, none⟩) 1 1 (fun _ => ((0 : Nat) : Int)) rfl hxA (fun h => by cases h) (by omega) hzA ?_; intro v' w3 hown hgrow; obtain ⟨A2, d2, rfl, hown2, hb3⟩ := FIN.out v' w3 hown hgrow; clear hown hgrow)
                go_roundw
                case rel => exact ⟨j + 1, A2, d2, rfl, by simp, by omega, hown2, hb3⟩
                case measure => simp [intOf]; omega
            · obtain rfl : j = n := by omega
              obtain ⟨A0, d0, e0, aB, aN, aG⟩ := own_arg ho HF.out
              cases e0
              have x := rcheck_ok j d1 A1 _ wr aB (by omega)
              clear ho aN aG
              go_wp2_with fail
              refine x.mono ?_
              rintro e w4 ⟨⟨rfl, h1⟩ | ⟨rfl, h1⟩, v4⟩
              · have HB := Lib.hid (aB.below v4)
                have q := below_end q hq v4
                have htop : v = p ∨ a v = v := HN.out.2.1 (fun i hi => ⟨HN.out.1 i hi, by
                  have h2 := (h1 i hi).2.2
                  have h3 : (nx a p v ((nx a p v i : Int)).toNat : Int) = (nx a p v i : Int) := h2
                  rw [Int.toNat_natCast] at h3
                  exact Int.ofNat_inj.1 h3⟩)
                have HT := Lib.hid (show NextIs a j p v from ⟨by omega, by rw [HU.out]; omega, fun i h1 h2 => HL.out i (by omega) h2, by rw [HU.out]; exact huv, hle, htop, fun i h1 h2 h3 => HX.out i (by rw [HU.out] at h1; exact h1) h2 (Or.inr h3)⟩)
                clear h1 x aB htop
                go_wp2_with fail
                go_ret2
                exact Or.inr ⟨a, p, v, _, _, HCA.out, HE.out, HT.out, rfl, HB.out, q⟩
              · have q := below_end q hq v4
                have hno : ¬ (v = p ∨ a v = v) := fun h => h1 (CanZ.of (HN.out.2.2 h))
                have HX2 := Lib.hid (show ∀ x, u < x → x < v + 1 → ¬ (x = p ∨ a x = x) from fun x h1 h2 => by
                  rcases Nat.lt_or_ge x v with h3 | h3
                  · exact HX.out x h1 h3
                  · obtain rfl : x = v := by omega
                    exact hno)
                clear h1 x aB hno
                go_wp2_with fail
                go_roundw
                case rel => exact ⟨v + 1, by simp, by omega, by omega, HX2, q⟩
                case measure => simp [intOf]; omega
        · have hvi : ¬ (v : Int) ≤ (p : Int) := by omega
          have hup : u = p := by
            rcases Nat.lt_or_ge u p with h | h
            · exact absurd (Or.inl rfl) (HX.out p h (by omega))
            · omega
          have HL2 := Lib.hid (show ∀ i, p ≤ i → i < n → a i = i from fun i h1 h2 => by
            rcases Nat.lt_or_ge p i with h3 | h3
            · exact HL.out i (by omega) h2
            · obtain rfl : i = p := by omega
              rw [HU.out, hup])
          clear hup
          go_wp2_with fail
          go_roundw
          case rel => exact ⟨p, by simp, by omega, HL2, q⟩
          case measure => simp [intOf]
    
end Go.Proofs.Ytipniooflaiikaa
