/-
  The walk of CheckedOrders.
-/
import Derived.Test.YtmjchiebpnnbpaaE9
set_option linter.unusedVariables false
set_option linter.unusedSimpArgs false
namespace Go.Proofs.Ytmjchiebpnnbpaa
open Go.RowKit Go.Shelf

def rev (t : Nat → Int) (N : Nat) : Nat → Int := fun i => t (N - 1 - i)
theorem tot_ext {z y : Nat → Int} {n : Nat} (h : ∀ j, j < n → z j = y j) : tot z n = tot y n := by
  induction n with
  | zero => rfl
  | succ n ih => simp only [tot]; rw [ih (fun j hj => h j (by omega)), h n (by omega)]
theorem tot_cat (z : Nat → Int) (n : Nat) (y : Nat → Int) (m : Nat) : tot (cat z n y) (n + m) = tot z n + tot y m := by
  induction m with
  | zero => simp only [tot, Nat.add_zero, Int.add_zero]; exact tot_ext fun j hj => if_pos hj
  | succ m ih =>
    show tot (cat z n y) (n + m) + cat z n y (n + m) = tot z n + (tot y m + y m)
    rw [ih]
    unfold cat
    rw [if_neg (by omega), Nat.add_sub_cancel_left]
    omega
theorem tot_rev (t : Nat → Int) (N : Nat) : ∀ k, k ≤ N → tot (rev t N) k + tot t (N - k) = tot t N
  | 0, _ => by simp [tot]
  | k + 1, h => by
    have ih := tot_rev t N k (by omega)
    obtain ⟨j, hj⟩ : ∃ j, N - k = j + 1 := ⟨N - k - 1, by omega⟩
    have e1 : N - (k + 1) = j := by omega
    rw [hj] at ih
    rw [e1]
    simp only [tot] at ih ⊢
    have e2 : rev t N k = t j := by unfold rev; congr 1; omega
    rw [e2]
    omega
theorem rev_step (t : Nat → Int) (N j : Nat) (h : j + 1 ≤ N) : vals (cat (rev t N) (N - (j + 1)) (fun _ => t j)) (N - (j + 1) + 1) = vals (rev t N) (N - j) := by
  have e : N - (j + 1) + 1 = N - j := by omega
  rw [e]
  refine vals_ext fun i hi => ?_
  unfold cat
  by_cases k : i < N - (j + 1)
  · rw [if_pos k]
  · rw [if_neg k]; show t j = t (N - 1 - i); congr 1; omega

set_option maxRecDepth 100000 in
set_option maxHeartbeats 4000000 in
theorem orders_walk (n c m d : Nat) (A B : Option Addr) (z y : Nat → Int) (w : World) (ha : ArgI .i64 w A n c z) (hA : A = none → n = 0 ∧ c = 0) (hb : ArgI .i64 w B m d y) (hB : B = none → m = 0 ∧ d = 0) :
    Calls Try.prog 6 #[.slice A n c, .slice B m d] w fun e w' => e = .returned (.bool true) ∧ Below w.heap.size w w' := by
  by_cases hn : 200 < n
  · have hn' : (200 : Int) < (n : Int) := by omega
    go_enter Try.func6, Try.ntmps6
    go_wp2_with fail
    go_ret
    exact ⟨rfl, Below.refl _ _⟩
  by_cases hm : 200 < m
  · have hn' : ¬ (200 : Int) < (n : Int) := by omega
    have hm' : (200 : Int) < (m : Int) := by omega
    go_enter Try.func6, Try.ntmps6
    go_wp2_with fail
    go_ret
    exact ⟨rfl, Below.refl _ _⟩
  have hn1 : n ≤ 200 := by omega
  have hm1 : m ≤ 200 := by omega
  have hz : ∀ j, j < n → Fits (z j) := fun j hj => wf_i64 (ha.2.2.2 j hj)
  have hy : ∀ j, j < m → Fits (y j) := fun j hj => wf_i64 (hb.2.2.2 j hj)
  have hzy : ∀ j, j < n + m → Fits (cat z n y j) := fun j hj => by
    unfold cat; split
    · exact hz _ (by omega)
    · exact hy _ (by omega)
  have hb0 := below_new1 w (.cells #[] 2)
  have ha0 := ha.below hb0
  have hbb0 := hb.below hb0
  have hown0 : (w.alloc (.cells #[] 2)).ownsRow w.heap.size 2 1 (.slice (some ⟨w.heap.size, 0, none⟩) 0 0) 0 (vals (fun _ => 0) 0) :=
    ⟨rfl, .inr ⟨w.heap.size, 0, #[], rfl, Nat.le_refl _, Blk.new w 2 #[], Nat.le_refl _, by simp [maxLen], rfl, rfl⟩⟩
  have hsz : w.heap.size ≤ (w.alloc (.cells #[] 2)).heap.size := by simp
  have HZ := Lib.hid hz
  have HY := Lib.hid hy
  have HZY := Lib.hid hzy
  clear hz hy hzy
  go_enter Try.func6, Try.ntmps6
  go_upto_region 4 with (first
    | (at_builtin; have mk := hown1; refine wpList_append_ints rfl _ _ rfl w.heap.size v1 n z rfl hown1 B m d y rfl (hb.below hb1) hB (by omega) hb1.size ?_; intro v2 w2 hown2 hgrow2)
    | (at_builtin; refine wpList_append_ints rfl _ _ rfl w.heap.size (.slice (some ⟨w.heap.size, 0, none⟩) 0 0) 0 (fun _ => 0) rfl hown0 A n c z rfl ha0 hA (by omega) hsz ?_; intro v1 w1 hown1 hgrow1; rw [Nat.zero_add, vals_ext (y := z) (fun j hj => by unfold cat; rw [if_neg (by omega)]; rfl)] at hown1; have hb1 := hb0.grown hgrow1 hsz (fun k hk => by simp [Value.ownBlock] at hk; omega)))
  have hb2 := hb1.grown hgrow2 hb1.size (fun k hk => (hown1.lt k hk).1)
  obtain ⟨C, cap, rfl, hC, hCn, hCg⟩ := own_arg hown2 HZY.out
  obtain ⟨t, ht⟩ : ∃ t, cat z n y = t := ⟨_, rfl⟩
  obtain ⟨N, hN⟩ : ∃ N, n + m = N := ⟨_, rfl⟩
  have HT := Lib.hid (show tot t N = tot z n + tot y m by rw [← ht, ← hN]; exact tot_cat _ _ _ _)
  rw [ht, hN] at hC
  rw [ht, hN] at HZY
  rw [hN] at hCn
  have hN1 : N ≤ 400 := by omega
  have ha2 := ha.below hb2
  have hbb2 := hb.below hb2
  rw [hN]
  clear hgrow1 hgrow2 hown0 hown1 hown2 ha0 hbb0 ht hN
  go_wp2_with fail
  have hrev : ∀ j, j < N → Fits (rev t N j) := fun j hj => HZY.out _ (by omega)
  have HR := Lib.hid hrev
  clear hrev
  go_loopw [6, 7] (fun vk vi wr => ∃ j : Nat, vi = .int .i64 ((j : Int) - 1) ∧ j ≤ N ∧ wr.ownsRow w2.heap.size 2 1 vk (N - j) (vals (rev t N) (N - j)) ∧ Below w2.heap.size w2 wr) (fun _ vi _ => (intOf vi + 1).toNat)
  case atStart => exact ⟨N, rfl, Nat.le_refl _, by rw [Nat.sub_self]; exact World.ownsRow_nil _ _ _ _, Below.refl _ _⟩
  case round =>
    obtain ⟨j, rfl, hj, hown, hbl⟩ := hrel
    have hC' := hC.below hbl
    rcases Nat.eq_zero_or_pos j with h0 | h0
    · subst h0
      rw [Nat.sub_zero] at hown
      obtain ⟨D, cap', rfl, hD, hDn, hDg⟩ := own_arg hown HR.out
      have hr := tot_rev t N N (Nat.le_refl _)
      rw [Nat.sub_self] at hr
      have HTR := Lib.hid (show tot (rev t N) N = tot t N by simp only [tot] at hr; omega)
      have ha3 := ha2.below hbl
      have hb3 := hbb2.below hbl
      have q := hb2.trans (hbl.mono hb2.size)
      clear hown hr hDn hDg
      go_wp2_with fail
      refine (sum_ok N cap C t _ hC').mono ?_
      rintro e w' ⟨rfl, rfl⟩
      go_wp2_with fail
      refine (sum_ok N cap' D (rev t N) _ hD).mono ?_
      rw [HTR.out]
      rintro e w' ⟨rfl, rfl⟩
      obtain ⟨V, hV⟩ : ∃ V, fitV (tot t N) = V := ⟨_, rfl⟩
      obtain ⟨U, hU⟩ : ∃ U, fitE (tot t N) = U := ⟨_, rfl⟩
      have HV := Lib.hid hV
      have HU := Lib.hid hU
      rw [hV, hU]
      clear hV hU
      go_wp2_with fail
      refine (sum_ok n c A z _ ha3).mono ?_
      by_cases f1 : Fits (tot z n)
      · rw [fitV_in f1, fitE_in f1]
        rintro e w' ⟨rfl, rfl⟩
        go_wp2_with fail
        refine (sum_ok m d B y _ hb3).mono ?_
        by_cases f2 : Fits (tot y m)
        · rw [fitV_in f2, fitE_in f2]
          rintro e w' ⟨rfl, rfl⟩
          go_wp2_with fail
          refine (add_ok (tot z n) (tot y m) f1 f2 _).mono ?_
          rw [← HT.out, HV.out, HU.out]
          rintro e w' ⟨rfl, rfl⟩
          go_wp2_with (go_at_call 15; refine (works_ok _).mono ?_; rintro e w9 ⟨rfl, hv9⟩)
          go_ret
          exact ⟨rfl, below_end q q.size hv9⟩
        · rw [fitV_out f2, fitE_out f2]
          rintro e w' ⟨rfl, rfl⟩
          go_wp2_with (go_at_call 15; refine (works_ok _).mono ?_; rintro e w9 ⟨rfl, hv9⟩)
          go_ret
          exact ⟨rfl, below_end q q.size hv9⟩
      · rw [fitV_out f1, fitE_out f1]
        rintro e w' ⟨rfl, rfl⟩
        go_wp2_with fail
        refine (sum_ok m d B y _ hb3).mono ?_
        rintro e w' ⟨rfl, rfl⟩
        go_wp2_with (go_at_call 15; refine (works_ok _).mono ?_; rintro e w9 ⟨rfl, hv9⟩)
        go_ret
        exact ⟨rfl, below_end q q.size hv9⟩
    · obtain ⟨i, rfl⟩ : ∃ i, j = i + 1 := ⟨j - 1, by omega⟩
      have ei : ((i + 1 : Nat) : Int) - 1 = (i : Int) := by omega
      rw [ei]
      obtain ⟨g, o, rfl, hg, hcell⟩ := hC'.2.2.1 (by omega)
      have c1 := hcell i (by omega)
      have hin : (i : Int) < (N : Int) := by omega
      have hcn := hC'.1
      have hx := HZY.out i (by omega)
      have Hstep := Lib.hid (rev_step t N i hj)
      have hown1 := hown.alloc (.cells #[.int .i64 (t i)] 2)
      have hone : ArgI .i64 (wr.alloc (.cells #[.int .i64 (t i)] 2)) (some ⟨wr.heap.size, 0, none⟩) 1 1 (fun _ => t i) :=
        argI_row (Blk.new wr 2 #[.int .i64 (t i)]) (by decide) (fun k hk => by cases (show k = 0 by omega); rfl) (fun k _ => hx)
      have hbl1 := hbl.alloc hbl.size (.cells #[.int .i64 (t i)] 2)
      clear hcell ei
      go_wp2_with (at_builtin; go_loud (refine wpList_append_ints rfl _ _ rfl w2.heap.size _ (N - (i + 1)) (rev t N) rfl hown1 (some ⟨wr.heap.size, 0, none⟩) 1 1 (fun _ => t i) rfl hone (by simp) (by omega) hbl1.size ?_; intro v3 w3 hown3 hgrow3))
      go_roundw
      case rel =>
        refine ⟨i, rfl, by omega, ?_, hbl1.grown hgrow3 hbl1.size (fun k hk => (hown1.lt k hk).1)⟩
        rw [Hstep.out] at hown3
        have e : N - (i + 1) + 1 = N - i := by omega
        rwa [e] at hown3
      case measure => simp [intOf]
end Go.Proofs.Ytmjchiebpnnbpaa
