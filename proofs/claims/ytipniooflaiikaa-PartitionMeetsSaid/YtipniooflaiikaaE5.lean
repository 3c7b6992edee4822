/-
  The references: Join.
-/
import Derived.Test.YtipniooflaiikaaE1
import Derived.Test.YtipniooflaiikaaA6
set_option linter.unusedVariables false
set_option linter.unusedSimpArgs false
namespace Go.Proofs.Ytipniooflaiikaa
open Go.RowKit Go.Shelf

/-- labels on the way to the join -/
structure Way (a b : Nat → Nat) (n : Nat) (f : Nat → Nat) : Prop where
  le : ∀ i, i < n → f i ≤ i
  con : ∀ i, i < n → Con (Near a b n) (f i) i
theorem Way.start (a b : Nat → Nat) (n : Nat) : Way a b n (fun i => i) := ⟨fun i _ => Nat.le_refl _, fun i _ => .refl i⟩
theorem Way.step {a b f : Nat → Nat} {n i j : Nat} (h : Way a b n f) (hi : i < n) (hj : j < n) (hN : a i = a j ∨ b i = b j) (hlt : f i < f j) : Way a b n (upd f j (f i)) := by
  refine ⟨fun k hk => ?_, fun k hk => ?_⟩
  · by_cases e : k = j
    · subst e; rw [upd_at]; have := h.le k hk; omega
    · rw [upd_ne _ _ e]; exact h.le k hk
  · by_cases e : k = j
    · subst e; rw [upd_at]; exact (h.con i hi).trans (.step ⟨hi, hj, hN⟩)
    · rw [upd_ne _ _ e]; exact h.con k hk
theorem Way.join {a b f : Nat → Nat} {n : Nat} (h : Way a b n f) (hd : ∀ i j, i < n → j < n → (a i = a j ∨ b i = b j) → ¬ f i < f j) : IsJoin a b n f :=
  ⟨h.le, h.con, fun i j k => by
    have h1 := hd i j k.1 k.2.1 k.2.2
    have h2 := hd j i k.2.1 k.1 (k.2.2.imp Eq.symm Eq.symm)
    omega⟩
theorem sm_upd {f : Nat → Nat} {j v : Nat} : ∀ {n : Nat}, j < n → v < f j → sm (upd f j v) n < sm f n
  | 0, h, _ => by omega
  | n + 1, h, hv => by
    simp only [sm]
    rcases Nat.lt_or_ge j n with h1 | h1
    · have := sm_upd (n := n) h1 hv
      rw [upd_ne _ _ (show n ≠ j by omega)]
      omega
    · obtain rfl : j = n := by omega
      rw [upd_at, sm_congr (g := f) (fun i hi => upd_ne _ _ (by omega))]
      omega
/-- the sum of what lies in a slice -/
def sumOut (w : World) : Value → Nat
  | .slice (some p) n _ => sm (fun i => (intOf ((w.cell? ⟨p.block, i, none⟩).getD (.bool false))).toNat) n
  | _ => 0
theorem sumOut_row {w : World} {g n c : Nat} {f : Nat → Nat} (h : RowN w g n f) : sumOut w (.slice (some ⟨g, 0, none⟩) n c) = sm f n :=
  sm_congr fun i hi => by
    have := RowF.cell h hi
    show (intOf ((w.cell? ⟨g, i, none⟩).getD (.bool false))).toNat = f i
    rw [this]
    simp [intOf]
/-- true or not, as a number -/
def boolN : Value → Nat | .bool true => 1 | _ => 0
/-- the list of a Join on its way -/
def OutIs (w0 : World) (w : World) (A : Option Addr) (n cap g : Nat) (f : Nat → Nat) : Prop := 0 < n → A = some ⟨g, 0, none⟩ ∧ w0.heap.size ≤ g ∧ n ≤ cap ∧ RowN w g n f
theorem sumOut_is {w0 w : World} {A : Option Addr} {n cap g : Nat} {f : Nat → Nat} (h : OutIs w0 w A n cap g f) : sumOut w (.slice A n cap) = sm f n := by
  rcases Nat.eq_zero_or_pos n with h0 | h0
  · subst h0
    cases A <;> rfl
  · obtain ⟨rfl, _, _, hr⟩ := h h0
    exact sumOut_row hr
theorem OutIs.below {w0 w w' : World} {A : Option Addr} {n cap g : Nat} {f : Nat → Nat} (h : OutIs w0 w A n cap g f) (m : Nat) : OutIs w0 (w.drewN m) A n cap g f := h

set_option maxRecDepth 100000 in
set_option maxHeartbeats 4000000 in
theorem rjoin_ok (n m c d : Nat) (A B : Option Addr) (z y : Nat → Int) (w : World) (ha : ArgI .i64 w A n c z) (hb : ArgI .i64 w B m d y) (hn : n ≤ 1000) (hm : m ≤ 1000) :
    Calls Try.prog 28 #[.slice A n c, .slice B m d] w fun e w' => ((¬ Two n m z y ∧ e = .returned (.tuple #[.slice none 0 0, .int .i64 2])) ∨
      (Two n m z y ∧ ∃ A' c' r, e = .returned (.tuple #[.slice A' n c', .int .i64 0]) ∧ ArgI .i64 w' A' n c' (fun i => (r i : Int)) ∧ (∀ a b : Nat → Nat, (∀ i, i < n → z i = (a i : Int)) → (∀ i, i < n → y i = (b i : Int)) → IsJoin a b n r))) ∧ Below w.heap.size w w' := by
  have x0 := rtwo_ok n m c d A B z y w ha hb hn hm
  have hn63 := ha.2.1
  have hnc := ha.1
  have hmd := hb.1
  go_enter Try.func28, Try.ntmps28
  go_wp2_with fail
  refine x0.mono ?_
  rintro e w0 ⟨⟨rfl, h1⟩ | ⟨rfl, h1⟩, v0⟩
  case inr =>
    have H1 := Lib.hid h1
    clear h1
    go_wp2_with fail
    go_ret2
    exact ⟨Or.inl ⟨H1.out, rfl⟩, v0⟩
  obtain rfl := h1.2.2
  have H1 := Lib.hid h1
  obtain ⟨a, b, _, hca, hcb, ea, eb⟩ := h1.nat
  have HE := Lib.hid (And.intro ea eb)
  have HFI := Lib.hid (show ∀ j, j < n → Fits ((fun j => ((j : Nat) : Int)) j) from fun j hj => ⟨by show _ ≤ (j : Int); omega, by show (j : Int) ≤ _; omega⟩)
  clear h1 x0 hca hcb ea eb
  go_wp2_with fail
  go_loopw [6, 7] (fun vo vi wr => ∃ (i : Nat) (A1 : Option Addr) (d1 : Nat), vo = .slice A1 i d1 ∧ vi = .int .i64 i ∧ i ≤ n ∧ wr.ownsRow w.heap.size 3 1 (.slice A1 i d1) i (vals (fun j => (j : Int)) i) ∧ Below w.heap.size w wr) (fun _ vi _ => n - (intOf vi).toNat)
  case atStart => exact ⟨0, none, 0, rfl, rfl, Nat.zero_le _, World.ownsRow_nil _ _ _ _, v0⟩
  case round =>
    clear v0
    obtain ⟨i, A1, d1, rfl, rfl, hi, ho, q⟩ := hrel
    have hq := q.size
    by_cases hlt : i < n
    · have hin : (i : Int) < (n : Int) := by omega
      have HC := Lib.hid (And.intro (cat_one (fun j => (j : Int)) i rfl) (fun j (hj : j < i + 1) => HFI.out j (by omega)))
      have hfx : Fits (i : Int) := ⟨by omega, by omega⟩
      have hoA : (wr.alloc (.cells #[.int .i64 (i : Int)] 3)).ownsRow w.heap.size 3 1 (.slice A1 i d1) i (vals (fun j => (j : Int)) i) := own_below ho (below_new1 wr _)
      have hxA : ArgI .i64 (wr.alloc (.cells #[.int .i64 (i : Int)] 3)) (some ⟨wr.heap.size, 0, none⟩) 1 1 (fun _ => (i : Int)) := argI_one wr i hfx
      have HOB := Lib.hid (own_base ho)
      have qA : Below w.heap.size w (wr.alloc (.cells #[.int .i64 (i : Int)] 3)) := q.alloc hq _
      have hzA : w.heap.size ≤ (wr.alloc (.cells #[.int .i64 (i : Int)] 3)).heap.size := by simp; omega
      clear hfx ho
      go_wp2_with (at_builtin; refine wpList_append_ints rfl _ _ rfl w.heap.size (.slice A1 i d1) i (fun j => (j : Int)) rfl hoA (some ⟨wr.heap.size, 0, none⟩) 1 1 (fun _ => (i : Int)) rfl hxA (fun h => by cases h) (by omega) hzA ?_; intro v' w3 hown hgrow; rw [vals_ext HC.out.1] at hown; have hb3 := qA.grown hgrow hzA HOB.out; obtain ⟨A2, d2, rfl, hC2, _, hCg2⟩ := own_arg hown HC.out.2)
      go_roundw
      case rel => exact ⟨i + 1, A2, d2, rfl, by simp, by omega, hown, hb3⟩
      case measure => simp [intOf]; omega
    · obtain rfl : i = n := by omega
      have hcaps : i ≤ d1 ∧ d1 ≤ 9223372036854775807 := by
        obtain ⟨A0, d0, e0, aB, _⟩ := own_arg ho HFI.out
        cases e0
        exact ⟨aB.1, aB.2.1⟩
      obtain ⟨hcap1, hcap⟩ := hcaps
      obtain ⟨g, hO⟩ : ∃ g, OutIs w wr A1 i d1 g (fun i => i) := by
        rcases Nat.eq_zero_or_pos i with h0 | h0
        · exact ⟨0, fun h => by omega⟩
        · obtain ⟨g, cap, e, hg, hc, hr⟩ := own_row ho h0
          cases e
          exact ⟨g, fun _ => ⟨rfl, hg, hc, hr⟩⟩
      have hW := Lib.hid (Way.start a b i)
      clear ho hlt hi
      go_wp2_with fail
      go_loopw [8, 9, 10] (fun vc _ _ wr => ∃ (ch : Bool) (f : Nat → Nat), vc = .bool ch ∧ OutIs w wr A1 i d1 g f ∧ Hid (Way a b i f) ∧ (ch = false → Hid (∀ p q, p < i → q < i → (a p = a q ∨ b p = b q) → ¬ f p < f q)) ∧ Below w.heap.size w wr) (fun vc _ _ wr => 2 * sumOut wr (.slice A1 i d1) + boolN vc)
      case atStart => exact ⟨true, _, rfl, hO, hW, (fun h => by cases h), q⟩
      case round =>
        clear hO hW q
        obtain ⟨ch, f0, rfl, hO, HW, hdone, q⟩ := hrel
        cases ch with
        | false =>
          have HD := hdone rfl
          have HJ := Lib.hid (HW.out.join HD.out)
          have HG := Lib.hid (show ArgI .i64 wr A1 i d1 (fun k => (f0 k : Int)) from by
            rcases Nat.eq_zero_or_pos i with h0 | h0
            · refine ⟨hcap1, hcap, fun h => by omega, fun k hk => by omega⟩
            · obtain ⟨rfl, _, _, hr⟩ := hO h0
              have h := RowF.arg hr (by omega) (fun k hk => by
                have := HW.out.le k hk
                exact fits_wf ⟨by omega, by omega⟩)
              exact ⟨hcap1, hcap, h.2.2.1, h.2.2.2⟩)
          clear hdone hO
          go_wp2_with fail
          go_ret2
          refine ⟨Or.inr ⟨H1.out, _, _, f0, rfl, HG.out, fun a' b' ea' eb' => ?_⟩, q⟩
          refine HJ.out.congr (fun k hk => ?_) (fun k hk => ?_)
          · have h1 := HE.out.1 k hk
            rw [ea' k hk] at h1
            exact (Int.ofNat_inj.1 h1).symm
          · have h1 := HE.out.2 k hk
            rw [eb' k hk] at h1
            exact (Int.ofNat_inj.1 h1).symm
        | true =>
          have hS := sumOut_is hO
          obtain ⟨S, hS2⟩ : ∃ S, sm f0 i = S := ⟨_, rfl⟩
          rw [hS2] at hS
          have HS := Lib.hid hS
          have HL := Lib.hid (show sm f0 i ≤ S by omega)
          clear hS hS2 hdone
          obtain ⟨w1, e1⟩ : ∃ w1 : World, w1 = wr := ⟨_, rfl⟩
          subst e1
          go_wp2_with fail
          go_loopw [8, 9, 10] (fun vc vp _ wr => ∃ (ch : Bool) (f : Nat → Nat) (p : Nat), vc = .bool ch ∧ vp = .int .i64 p ∧ p ≤ i ∧ OutIs w wr A1 i d1 g f ∧ Hid (Way a b i f) ∧ Hid (sm f i ≤ S ∧ (ch = true → sm f i < S)) ∧ (ch = false → Hid (∀ x q, x < p → q < i → (a x = a q ∨ b x = b q) → ¬ f x < f q)) ∧ Below w.heap.size w wr) (fun _ vp _ _ => i - (intOf vp).toNat)
          case atStart => exact ⟨false, f0, 0, rfl, rfl, Nat.zero_le _, hO, HW, Lib.hid ⟨HL.out, (fun h => by cases h)⟩, fun _ => Lib.hid (fun x q h => by omega), q⟩
          case round =>
            clear hO HW q HL
            obtain ⟨ch, f, p, rfl, rfl, hp, hO, HW, HL, hdone, q⟩ := hrel
            by_cases hlp : p < i
            · have hpi : (p : Int) < (i : Int) := by omega
              go_wp2_with fail
              go_loopw [8, 10] (fun vc vj wr => ∃ (ch : Bool) (f : Nat → Nat) (j : Nat), vc = .bool ch ∧ vj = .int .i64 j ∧ j ≤ i ∧ OutIs w wr A1 i d1 g f ∧ Hid (Way a b i f) ∧ Hid (sm f i ≤ S ∧ (ch = true → sm f i < S)) ∧ (ch = false → Hid (∀ x q, (x < p ∨ (x = p ∧ q < j)) → q < i → (a x = a q ∨ b x = b q) → ¬ f x < f q)) ∧ Below w.heap.size w wr) (fun _ vj _ => i - (intOf vj).toNat)
              case atStart => exact ⟨ch, f, 0, rfl, rfl, Nat.zero_le _, hO, HW, HL, fun h => Lib.hid (fun x q h1 h2 h3 => (hdone h).out x q (by omega) h2 h3), q⟩
              case round =>
                clear hO HW q HL hdone
                obtain ⟨ch, f, j, rfl, rfl, hj, hO, HW, HL, hdone, q⟩ := hrel
                by_cases hlj : j < i
                · have hji : (j : Int) < (i : Int) := by omega
                  obtain ⟨rfl, hgw, _, hr⟩ := hO (by omega)
                  have ha1 := ha.below q
                  have hb1 := hb.below q
                  obtain ⟨g1, o, rfl, hg, hc⟩ := ha1.2.2.1 (by omega)
                  obtain ⟨g2, o', rfl, hg', hc'⟩ := hb1.2.2.1 (by omega)
                  have c1 := hc p (by omega)
                  have c2 := hc j (by omega)
                  have c3 := hc' p (by omega)
                  have c4 := hc' j (by omega)
                  have c5 := RowF.cell hr hlp
                  have c6 := RowF.cell hr hlj
                  have HNR := Lib.hid (show (z p = z j ↔ a p = a j) ∧ (y p = y j ↔ b p = b j) from by
                    rw [HE.out.1 p hlp, HE.out.1 j hlj, HE.out.2 p hlp, HE.out.2 j hlj]
                    exact ⟨Int.ofNat_inj, Int.ofNat_inj⟩)
                  obtain ⟨u, hu⟩ : ∃ u, z p = u := ⟨_, rfl⟩
                  obtain ⟨v, hv⟩ : ∃ v, z j = v := ⟨_, rfl⟩
                  obtain ⟨s, hs⟩ : ∃ s, y p = s := ⟨_, rfl⟩
                  obtain ⟨t, ht⟩ : ∃ t, y j = t := ⟨_, rfl⟩
                  obtain ⟨P, hP⟩ : ∃ P, f p = P := ⟨_, rfl⟩
                  obtain ⟨J, hJ⟩ : ∃ J, f j = J := ⟨_, rfl⟩
                  rw [hu] at c1
                  rw [hv] at c2
                  rw [hs] at c3
                  rw [ht] at c4
                  rw [hP] at c5
                  rw [hJ] at c6
                  have HU := Lib.hid (And.intro (And.intro hu hv) (And.intro hs ht))
                  have HPJ := Lib.hid (And.intro hP hJ)
                  have hfj := RowF.frozen hr j
                  clear hc hc' hu hv hs ht ha1 hb1 hP hJ
                  by_cases hPJ : P < J
                  · have hPJi : (P : Int) < (J : Int) := by omega
                    by_cases huv : u = v
                    · subst huv
                      go_wp2_with fail
                      go_quiet (fail)
                      have hr := hr.drewN nq
                      have q := below_drewN q nq
                      generalize hw1 : wr.drewN nq = w2 at *
                      have c5 : w2.cell? ⟨g, p, none⟩ = some (.int .i64 (P : Int)) := by rw [← hw1]; exact c5
                      have hfj : w2.frozen? ⟨g, j, none⟩ = false := by rw [← hw1]; exact hfj
                      have c6 : w2.cell? ⟨g, j, none⟩ = some (.int .i64 (J : Int)) := by rw [← hw1]; exact c6
                      clear hw1
                      go_wp2_with fail
                      have R := RowF.set_n hr j P
                      have Q := q.setCell (p := ⟨g, j, none⟩) hgw (.int .i64 (P : Int))
                      have HW2 := Lib.hid (show Way a b i (upd f j P) from by rw [← HPJ.out.1]; exact HW.out.step hlp hlj (Or.inl (HNR.out.1.1 (by rw [HU.out.1.1, HU.out.1.2]))) (by rw [HPJ.out.1, HPJ.out.2]; exact hPJ))
                      have HL2 := Lib.hid (show sm (upd f j P) i < S from Nat.lt_of_lt_of_le (sm_upd hlj (by rw [HPJ.out.2]; exact hPJ)) HL.out.1)
                      go_roundw
                      case rel => exact ⟨true, _, j + 1, rfl, by simp, by omega, fun _ => ⟨rfl, hgw, hcap1, R⟩, HW2, Lib.hid ⟨Nat.le_of_lt HL2.out, fun _ => HL2.out⟩, (fun h => by cases h), Q⟩
                      case measure => simp [intOf]; omega
                    · have huv1 : (u == v) = false := by simpa using huv
                      by_cases hst : s = t
                      · subst hst
                        go_wp2_with fail
                        go_quiet (fail)
                        have hr := hr.drewN nq
                        have q := below_drewN q nq
                        generalize hw1 : wr.drewN nq = w2 at *
                        have c5 : w2.cell? ⟨g, p, none⟩ = some (.int .i64 (P : Int)) := by rw [← hw1]; exact c5
                        have hfj : w2.frozen? ⟨g, j, none⟩ = false := by rw [← hw1]; exact hfj
                        have c6 : w2.cell? ⟨g, j, none⟩ = some (.int .i64 (J : Int)) := by rw [← hw1]; exact c6
                        clear hw1
                        go_wp2_with fail
                        have R := RowF.set_n hr j P
                        have Q := q.setCell (p := ⟨g, j, none⟩) hgw (.int .i64 (P : Int))
                        have HW2 := Lib.hid (show Way a b i (upd f j P) from by rw [← HPJ.out.1]; exact HW.out.step hlp hlj (Or.inr (HNR.out.2.1 (by rw [HU.out.2.1, HU.out.2.2]))) (by rw [HPJ.out.1, HPJ.out.2]; exact hPJ))
                        have HL2 := Lib.hid (show sm (upd f j P) i < S from Nat.lt_of_lt_of_le (sm_upd hlj (by rw [HPJ.out.2]; exact hPJ)) HL.out.1)
                        go_roundw
                        case rel => exact ⟨true, _, j + 1, rfl, by simp, by omega, fun _ => ⟨rfl, hgw, hcap1, R⟩, HW2, Lib.hid ⟨Nat.le_of_lt HL2.out, fun _ => HL2.out⟩, (fun h => by cases h), Q⟩
                        case measure => simp [intOf]; omega
                      · have hst1 : (s == t) = false := by simpa using hst
                        have hd2 : ch = false → Hid (∀ x q, (x < p ∨ (x = p ∧ q < j + 1)) → q < i → (a x = a q ∨ b x = b q) → ¬ f x < f q) := fun h => Lib.hid (fun x q h1 h2 h3 => by
                          by_cases hx : x < p ∨ (x = p ∧ q < j)
                          · exact (hdone h).out x q hx h2 h3
                          · obtain ⟨e1, e2⟩ : x = p ∧ q = j := by omega
                            subst e1 e2
                            rcases h3 with h3 | h3
                            · exact absurd (HNR.out.1.2 h3) (by rw [HU.out.1.1, HU.out.1.2]; exact huv)
                            · exact absurd (HNR.out.2.2 h3) (by rw [HU.out.2.1, HU.out.2.2]; exact hst))
                        go_wp2_with fail
                        go_quiet (fail)
                        have hr := hr.drewN nq
                        have q := below_drewN q nq
                        go_wp2_with fail
                        go_roundw
                        case rel => exact ⟨ch, f, j + 1, rfl, by simp, by omega, fun _ => ⟨rfl, hgw, hcap1, hr⟩, HW, HL, hd2, q⟩
                        case measure => simp [intOf]; omega
                  · have hPJi : ¬ (P : Int) < (J : Int) := by omega
                    by_cases huv : u = v
                    · subst huv
                      have hd2 : ch = false → Hid (∀ x q, (x < p ∨ (x = p ∧ q < j + 1)) → q < i → (a x = a q ∨ b x = b q) → ¬ f x < f q) := fun h => Lib.hid (fun x q h1 h2 h3 => by
                        by_cases hx : x < p ∨ (x = p ∧ q < j)
                        · exact (hdone h).out x q hx h2 h3
                        · obtain ⟨e1, e2⟩ : x = p ∧ q = j := by omega
                          subst e1 e2
                          rw [HPJ.out.1, HPJ.out.2]; exact hPJ)
                      go_wp2_with fail
                      go_quiet (fail)
                      have hr := hr.drewN nq
                      have q := below_drewN q nq
                      go_wp2_with fail
                      go_roundw
                      case rel => exact ⟨ch, f, j + 1, rfl, by simp, by omega, fun _ => ⟨rfl, hgw, hcap1, hr⟩, HW, HL, hd2, q⟩
                      case measure => simp [intOf]; omega
                    · have huv1 : (u == v) = false := by simpa using huv
                      by_cases hst : s = t
                      · subst hst
                        have hd2 : ch = false → Hid (∀ x q, (x < p ∨ (x = p ∧ q < j + 1)) → q < i → (a x = a q ∨ b x = b q) → ¬ f x < f q) := fun h => Lib.hid (fun x q h1 h2 h3 => by
                          by_cases hx : x < p ∨ (x = p ∧ q < j)
                          · exact (hdone h).out x q hx h2 h3
                          · obtain ⟨e1, e2⟩ : x = p ∧ q = j := by omega
                            subst e1 e2
                            rw [HPJ.out.1, HPJ.out.2]; exact hPJ)
                        go_wp2_with fail
                        go_quiet (fail)
                        have hr := hr.drewN nq
                        have q := below_drewN q nq
                        go_wp2_with fail
                        go_roundw
                        case rel => exact ⟨ch, f, j + 1, rfl, by simp, by omega, fun _ => ⟨rfl, hgw, hcap1, hr⟩, HW, HL, hd2, q⟩
                        case measure => simp [intOf]; omega
                      · have hst1 : (s == t) = false := by simpa using hst
                        have hd2 : ch = false → Hid (∀ x q, (x < p ∨ (x = p ∧ q < j + 1)) → q < i → (a x = a q ∨ b x = b q) → ¬ f x < f q) := fun h => Lib.hid (fun x q h1 h2 h3 => by
                          by_cases hx : x < p ∨ (x = p ∧ q < j)
                          · exact (hdone h).out x q hx h2 h3
                          · obtain ⟨e1, e2⟩ : x = p ∧ q = j := by omega
                            subst e1 e2
                            rw [HPJ.out.1, HPJ.out.2]; exact hPJ)
                        go_wp2_with fail
                        go_quiet (fail)
                        have hr := hr.drewN nq
                        have q := below_drewN q nq
                        go_wp2_with fail
                        go_roundw
                        case rel => exact ⟨ch, f, j + 1, rfl, by simp, by omega, fun _ => ⟨rfl, hgw, hcap1, hr⟩, HW, HL, hd2, q⟩
                        case measure => simp [intOf]; omega
                · obtain rfl : j = i := by omega
                  have hji : ¬ (j : Int) < (j : Int) := by omega
                  go_wp2_with fail
                  go_roundw
                  case rel => exact ⟨ch, f, p + 1, rfl, by simp, by omega, hO, HW, HL, fun h => Lib.hid (fun x q h1 h2 h3 => (hdone h).out x q (by omega) h2 h3), q⟩
                  case measure => simp [intOf]; omega
            · obtain rfl : p = i := by omega
              have hpi : ¬ (p : Int) < (p : Int) := by omega
              have hS2 := sumOut_is hO
              go_wp2_with fail
              go_roundw
              case rel => exact ⟨ch, f, rfl, hO, HW, fun h => Lib.hid (fun x q h1 h2 h3 => (hdone h).out x q h1 h2 h3), q⟩
              case measure =>
                show 2 * sumOut wr (.slice A1 p d1) + boolN (.bool ch) < 2 * sumOut w1 (.slice A1 p d1) + boolN (.bool true)
                rw [hS2, HS.out]
                have h1 := HL.out
                cases ch with
                | true => have := h1.2 rfl; simp [boolN]; omega
                | false => have := h1.1; simp [boolN]; omega
end Go.Proofs.Ytipniooflaiikaa
