/-
  SplaySums, walked.
-/
import Derived.Test.YtgichkjomhnehaaL8
set_option linter.unusedVariables false
set_option linter.unusedSimpArgs false
namespace Go.Proofs.Ytgichkjomhnehaa
open Go.RowKit Go.Shelf

def seg (t m k : Nat) : List Nat := (List.range (k + 1)).map (fun i => (t + i) % m)
def ringQ (t m k : Nat) : Nat → List Nat := fun z => if z ∈ seg t m k then seg t m k else [z]
theorem mod_inj {t m i j : Nat} (hij : i < j) (hj : j < m) : (t + i) % m ≠ (t + j) % m := by
  intro e
  have := Nat.sub_mod_eq_zero_of_mod_eq e.symm
  rw [Nat.add_sub_add_left, Nat.mod_eq_of_lt (by omega)] at this
  omega
theorem seg_succ (t m k : Nat) : seg t m (k + 1) = seg t m k ++ [(t + (k + 1)) % m] := by
  unfold seg
  rw [List.range_succ, List.map_append]
  rfl
theorem seg_mem {t m k i : Nat} (hi : i ≤ k) : (t + i) % m ∈ seg t m k := List.mem_map.2 ⟨i, List.mem_range.2 (by omega), rfl⟩
theorem seg_off {t m k : Nat} (hk : k + 1 < m) : (t + (k + 1)) % m ∉ seg t m k := by
  intro e
  obtain ⟨i, hi, e⟩ := List.mem_map.1 e
  exact mod_inj (List.mem_range.1 hi) hk e
theorem ring_start (t m z : Nat) : ringQ t m 0 z = [z] := by
  have e : seg t m 0 = [t % m] := rfl
  unfold ringQ
  rw [e]
  by_cases h : z = t % m
  · rw [h]; simp
  · rw [if_neg (by simpa using h)]
theorem ring_at (t m k : Nat) : ringQ t m k ((t + k) % m) = seg t m k := if_pos (seg_mem (Nat.le_refl k))
theorem ring_off {t m k : Nat} (hk : k + 1 < m) : (t + (k + 1)) % m ∉ ringQ t m k ((t + k) % m) := by rw [ring_at]; exact seg_off hk
theorem ring_step {t m k : Nat} (hk : k + 1 < m) (z : Nat) : joinQ (ringQ t m k) ((t + k) % m) ((t + (k + 1)) % m) z = ringQ t m (k + 1) z := by
  have e2 : ringQ t m k ((t + (k + 1)) % m) = [(t + (k + 1)) % m] := if_neg (seg_off hk)
  unfold joinQ
  rw [ring_at, e2]
  show _ = if z ∈ seg t m (k + 1) then seg t m (k + 1) else [z]
  rw [← seg_succ]
  by_cases h : z ∈ seg t m k ∨ z ∈ [(t + (k + 1)) % m]
  · rw [if_pos h, if_pos (by rw [seg_succ]; exact List.mem_append.2 h)]
  · rw [if_neg h, if_neg (by rw [seg_succ]; exact fun e => h (List.mem_append.1 e))]
    exact if_neg (fun e => h (.inl e))
theorem seg_all {t m z : Nat} (hz : z < m) : z ∈ seg t m (m - 1) := by
  have e : (t + (z + (m - t % m)) % m) % m = z := by
    rw [Nat.add_mod_mod]
    have h1 := Nat.div_add_mod t m
    have h2 := Nat.mod_lt t (show m > 0 by omega)
    have : t + (z + (m - t % m)) = z + m * (t / m + 1) := by rw [Nat.mul_add, Nat.mul_one]; omega
    rw [this, Nat.add_mul_mod_self_left, Nat.mod_eq_of_lt hz]
  rw [← e]
  exact seg_mem (by have := Nat.mod_lt (z + (m - t % m)) (show m > 0 by omega); omega)
theorem seg_perm {t m : Nat} (hm : 0 < m) : (seg t m (m - 1)).Perm (List.range m) := by
  have hnd : (seg t m (m - 1)).Nodup := by
    refine List.pairwise_map.2 ((List.pairwise_lt_range (n := m - 1 + 1)).imp_of_mem ?_)
    intro i j hi hj hij
    exact mod_inj hij (by have := List.mem_range.1 hj; omega)
  rw [List.perm_iff_count]
  intro a
  have c1 : (List.range m).count a = if a < m then 1 else 0 := by rw [List.count_range]
  rw [c1]
  by_cases ha : a < m
  · rw [if_pos ha]
    exact Nat.le_antisymm (List.nodup_iff_count.1 hnd a) (List.count_pos_iff.2 (seg_all ha))
  · rw [if_neg ha, List.count_eq_zero]
    intro e
    obtain ⟨i, _, e⟩ := List.mem_map.1 e
    have := Nat.mod_lt (t + i) hm
    omega
def Uk (n k : Nat) : Nat → Int := fun y => if y < k then 9223372036854775807 else if n ≤ y ∧ y < n + k then -9223372036854775808 else 0
def Um (n : Nat) (v l : Int) : Nat → Int := fun y => if y < n then 9223372036854775807 else if y < n + n then -9223372036854775808 else if y = n + n then v else l
theorem Uk_step {n k : Nat} (hk : k < n) (y : Nat) : setU (setU (Uk n k) k 9223372036854775807) (n + k) (-9223372036854775808) y = Uk n (k + 1) y := by
  unfold setU Uk
  repeat' split
  all_goals first | rfl | omega
theorem Um_first {n : Nat} {v : Int} (y : Nat) : setU (Uk n n) (n + n) v y = Um n v 0 y := by
  unfold setU Uk Um
  repeat' split
  all_goals first | rfl | omega
theorem Um_last {n : Nat} {v l : Int} (y : Nat) (hy : y < n + n + 2) : setU (Um n v 0) (n + n + 1) l y = Um n v l y := by
  unfold setU Um
  repeat' split
  all_goals first | rfl | omega
theorem tot_range (U : Nat → Int) (j : Nat) : tot U (List.range (j + 1)) = tot U (List.range j) + U j := by
  rw [List.range_succ, tot_append, tot_cons]
  simp [tot]
theorem Um_tot1 (n : Nat) (v l : Int) : ∀ j, j ≤ n → tot (Um n v l) (List.range j) = 9223372036854775807 * (j : Int)
  | 0, _ => by simp [tot]
  | j + 1, h => by
    rw [tot_range, Um_tot1 n v l j (by omega)]
    unfold Um
    rw [if_pos (by omega)]
    omega
theorem Um_tot2 (n : Nat) (v l : Int) : ∀ j, j ≤ n → tot (Um n v l) (List.range (n + j)) = 9223372036854775807 * (n : Int) - 9223372036854775808 * (j : Int)
  | 0, _ => by rw [Nat.add_zero, Um_tot1 n v l n (Nat.le_refl n)]; omega
  | j + 1, h => by
    rw [← Nat.add_assoc, tot_range, Um_tot2 n v l j (by omega)]
    unfold Um
    rw [if_neg (by omega), if_pos (by omega)]
    omega
theorem Um_tot (n : Nat) (v l : Int) : tot (Um n v l) (List.range (n + n + 2)) = v - n + l := by
  rw [tot_range, tot_range, Um_tot2 n v l n (Nat.le_refl n)]
  unfold Um
  rw [if_neg (by omega), if_neg (by omega), if_pos rfl, if_neg (by omega), if_neg (by omega), if_neg (by omega)]
  omega
theorem ring_tot (n t : Nat) (v l : Int) (z : Nat) (hz : z < n + n + 2) : tot (Um n v l) (ringQ t (n + n + 2) (n + n + 1) z) = v - n + l := by
  rw [show ringQ t (n + n + 2) (n + n + 1) z = seg t (n + n + 2) (n + n + 2 - 1) from if_pos (seg_all hz), tot_perm (seg_perm (by omega))]
  exact Um_tot n v l
set_option maxRecDepth 100000 in
set_option maxHeartbeats 2500000 in
theorem sums_walk (a0 a1 v : Int) (more : Bool) (w : World) (hw0 : (Lit.int .u8 a0).wf = true) (hw1 : (Lit.int .u8 a1).wf = true) (hw2 : (Lit.int .i64 v).wf = true) :
    Calls Try.prog 4 #[.int .u8 a0, .int .u8 a1, .int .i64 v, .bool more] w fun e w' => e = .returned (.bool true) ∧ Below w.heap.size w w' := by
  have b0 := wf_u8 hw0
  have b1 := wf_u8 hw1
  have hv : Fits v := wf_i64 hw2
  have hv1 := hv.1
  have hv2 := hv.2
  obtain ⟨n, hn⟩ : ∃ n : Nat, (n : Int) = a0 % 16 := ⟨(a0 % 16).toNat, by omega⟩
  obtain ⟨t, rfl⟩ : ∃ t : Nat, a1 = (t : Int) := ⟨a1.toNat, by omega⟩
  have hn16 : n < 16 := by omega
  have m1 : a0 % 16 = (n : Int) := hn.symm
  have m2 : a0.tmod 16 = (n : Int) := by rw [Int.tmod_eq_emod_of_nonneg (by omega)]; exact hn.symm
  obtain ⟨n2, hn2⟩ : ∃ n2, n + n = n2 := ⟨_, rfl⟩
  obtain ⟨mm, hmm⟩ : ∃ mm, n2 + 2 = mm := ⟨_, rfl⟩
  obtain ⟨m9, hm9⟩ : ∃ m9, n2 + 1 = m9 := ⟨_, rfl⟩
  have e1 : (2 : Int) * (n : Int) = (n2 : Int) := by omega
  have e2 : (n2 : Int) + 2 = (mm : Int) := by omega
  have e3 : (n2 : Int) + 1 = (m9 : Int) := by omega
  have bn2 : n2 ≤ 30 := by omega
  have bmm : mm ≤ 32 := by omega
  have bmp : 0 < mm := by omega
  have bm9 : m9 ≤ 31 := by omega
  have HN := Lib.hid (And.intro hn2 (And.intro hmm hm9))
  have x0 := new_ok mm w (by omega)
  clear hn hn2 hmm hm9 hw0 hw1 hw2
  go_enter Try.func4, Try.ntmps4
  go_wp2_with fail
  refine x0.mono ?_
  rintro e w1 ⟨b, s, rfl, h, hb, hs, q⟩
  clear x0
  have h : SQ w1 b s mm (fun x => [x]) (Uk n 0) := h.congr (fun _ _ => rfl) (fun y _ => by unfold Uk; rw [if_neg (by omega), if_neg (by omega)])
  go_wp2_with fail
  go_loopw [12] (fun vk wr => ∃ k : Nat, vk = .int .i64 k ∧ k ≤ n ∧ SQ wr b s mm (fun x => [x]) (Uk n k) ∧ Below w.heap.size w wr) (fun vk _ => n - (intOf vk).toNat)
  case atStart => exact ⟨0, rfl, Nat.zero_le _, h, q⟩
  case round =>
    clear h q
    obtain ⟨k, rfl, hk, h, q⟩ := hrel
    by_cases hlt : k < n
    · have hkn : (k : Int) < (n : Int) := by omega
      obtain ⟨nk, hnk⟩ : ∃ nk, n + k = nk := ⟨_, rfl⟩
      have e4 : (n : Int) + (k : Int) = (nk : Int) := by omega
      have bnk : nk ≤ 32 := by omega
      have hnm : nk < mm := by have := HN.out; omega
      have hkm : k < mm := by have := HN.out; omega
      have HNK := Lib.hid hnk
      clear hnk
      have x1 := set_ok b s mm _ _ k 9223372036854775807 wr h hkm ⟨by omega, by omega⟩
      go_wp2_with fail
      (with_reducible refine x1.mono ?_)
      rintro e w2 ⟨rfl, h, hT⟩
      have q := below_step q hs hT
      clear x1 hT
      have x1 := set_ok b s mm _ _ nk (-9223372036854775808) w2 h hnm ⟨by omega, by omega⟩
      go_wp2_with fail
      (with_reducible refine x1.mono ?_)
      rintro e w3 ⟨rfl, h, hT⟩
      have q := below_step q hs hT
      clear x1 hT
      have h := h.congr (Q' := fun x => [x]) (U' := Uk n (k + 1)) (fun _ _ => rfl) (fun y _ => by rw [← HNK.out]; exact Uk_step hlt y)
      go_wp2_with fail
      go_roundw
      case rel => exact ⟨k + 1, by simp, by omega, h, q⟩
      case measure => simp [intOf]; omega
    · have hkn : ¬ (k : Int) < (n : Int) := by omega
      obtain rfl : k = n := by omega
      have hn2m : n2 < mm := by have := HN.out; omega
      have x1 := set_ok b s mm _ _ n2 v wr h hn2m hv
      go_wp2_with fail
      (with_reducible refine x1.mono ?_)
      rintro e w2 ⟨rfl, h, hT⟩
      have q := below_step q hs hT
      clear x1 hT
      have h := h.congr (Q' := ringQ t mm 0) (U' := Um k v 0) (fun z _ => (ring_start t mm z).symm) (fun y _ => by rw [← HN.out.1]; exact Um_first y)
      go_wp2_with fail
      go_loopw [14, 15, 16] (fun vk _ _ wr => ∃ j i : Nat, vk = .int .i64 j ∧ j = i + 1 ∧ j ≤ mm ∧ SQ wr b s mm (ringQ t mm i) (Um k v 0) ∧ Below w.heap.size w wr) (fun vk _ _ _ => mm - (intOf vk).toNat)
      case atStart => exact ⟨1, 0, rfl, rfl, by omega, h, q⟩
      case round =>
        clear h q
        obtain ⟨j, i, rfl, hji, hj, h, q⟩ := hrel
        by_cases hlt : j < mm
        · have hjm : (j : Int) < (mm : Int) := by omega
          obtain ⟨it, hit⟩ : ∃ it, i + t = it := ⟨_, rfl⟩
          obtain ⟨jt, hjt⟩ : ∃ jt, j + t = jt := ⟨_, rfl⟩
          obtain ⟨a, ha⟩ : ∃ a, it % mm = a := ⟨_, rfl⟩
          obtain ⟨c, hc⟩ : ∃ c, jt % mm = c := ⟨_, rfl⟩
          have f1 : (j : Int) - 1 = (i : Int) := by omega
          have f2 : (i : Int) + (t : Int) = (it : Int) := by omega
          have f3 : (j : Int) + (t : Int) = (jt : Int) := by omega
          have f4 : (it : Int).tmod (mm : Int) = (a : Int) := by rw [Int.tmod_eq_emod_of_nonneg (by omega), ← ha]; exact (Int.natCast_emod it mm).symm
          have f5 : (jt : Int).tmod (mm : Int) = (c : Int) := by rw [Int.tmod_eq_emod_of_nonneg (by omega), ← hc]; exact (Int.natCast_emod jt mm).symm
          have am : a < mm := by rw [← ha]; exact Nat.mod_lt _ bmp
          have cm : c < mm := by rw [← hc]; exact Nat.mod_lt _ bmp
          have g1 : IntKind.i64.wrap (i : Int) = (i : Int) := by rw [IntKind.wrap_i64]; omega
          have g2 : IntKind.i64.wrap (t : Int) = (t : Int) := by rw [IntKind.wrap_i64]; omega
          have g3 : IntKind.i64.wrap (it : Int) = (it : Int) := by rw [IntKind.wrap_i64]; omega
          have g4 : IntKind.i64.wrap (jt : Int) = (jt : Int) := by rw [IntKind.wrap_i64]; omega
          have g5 : IntKind.i64.wrap (a : Int) = (a : Int) := by rw [IntKind.wrap_i64]; omega
          have g6 : IntKind.i64.wrap (c : Int) = (c : Int) := by rw [IntKind.wrap_i64]; omega
          have hm0 : ¬ (mm : Int) = 0 := by omega
          have hm1 : ((mm : Int) == 0) = false := by rw [beq_eq_false_iff_ne]; omega
          have HA := Lib.hid (show a = (t + i) % mm by rw [← ha, ← hit, Nat.add_comm])
          have HC := Lib.hid (show c = (t + (i + 1)) % mm by rw [← hc, ← hjt, hji, Nat.add_comm])
          have HJ := Lib.hid hji
          have hi1 : i + 1 < mm := by omega
          clear hit hjt ha hc hji
          go_upto_region 16 with fail
          go_quiet (fail)
          have h : SQ (wr.drewN nq) b s mm (ringQ t mm i) (Um k v 0) := h
          have q := below_drewN q nq
          clear f1 f2 f3 f4 f5 g1 g2 g3 g4 g5 g6
          generalize wr.drewN nq = W1 at *
          have x1 := join_ok b s mm _ _ a c W1 h am cm (by rw [HA.out, HC.out]; exact ring_off hi1)
          go_wp2_with fail
          (with_reducible refine x1.mono ?_)
          rintro e w3 ⟨rfl, h, hT⟩
          have q := below_step q hs hT
          clear x1 hT
          have h := h.congr (Q' := ringQ t mm (i + 1)) (U' := Um k v 0) (fun z _ => by rw [HA.out, HC.out]; exact ring_step hi1 z) (fun _ _ => rfl)
          go_wp2_with fail
          go_roundw
          case rel => exact ⟨j + 1, i + 1, by simp, by have := HJ.out; omega, by omega, h, q⟩
          case measure => simp [intOf]; omega
        · have hjm : ¬ (j : Int) < (mm : Int) := by omega
          have hi9 : i = m9 := by have := HN.out; omega
          subst hi9
          have hN := HN.out
          have RT : ∀ l z, z < mm → tot (Um k v l) (ringQ t mm i z) = v - k + l := fun l z hz => by
            rw [show mm = k + k + 2 by omega] at hz ⊢
            rw [show i = k + k + 1 by omega]
            exact ring_tot k t v l z hz
          have hi1 : i < mm := by omega
          have HL := Lib.hid (fun (l : Int) (y : Nat) (hy : y < mm) => show setU (Um k v 0) i l y = Um k v l y by
            rw [show i = k + k + 1 by omega]
            exact Um_last y (by omega))
          clear hN hji
          obtain ⟨T, hT1⟩ : ∃ T : Int, v - (k : Int) = T := ⟨_, rfl⟩
          obtain ⟨B, hB⟩ : ∃ B : Int, (-9223372036854775808 : Int) + (k : Int) = B := ⟨_, rfl⟩
          obtain ⟨M, hM⟩ : ∃ M : Int, (9223372036854775807 : Int) - (k : Int) = M := ⟨_, rfl⟩
          have R0 := RT 0 0 bmp
          rw [hT1, Int.add_zero] at R0
          have x1 := sum_ok b s mm _ _ 0 wr h bmp
          rw [R0, show ((0 : Nat) : Int) = 0 from rfl] at x1
          have wB : IntKind.i64.wrap B = B := by rw [IntKind.wrap_i64]; omega
          have wM : IntKind.i64.wrap M = M := by rw [IntKind.wrap_i64]; omega
          cases more
          · obtain ⟨T2, hT2⟩ : ∃ T2 : Int, T + 9223372036854775807 = T2 := ⟨_, rfl⟩
            have R1 := RT 9223372036854775807 i hi1
            rw [hT1, hT2] at R1
            have HR1 := Lib.hid R1
            clear R0 R1 RT
            have hcs : (v < B ∧ v ≤ (k : Int) ∧ ¬ Fits T ∧ Fits T2) ∨ (¬ v < B ∧ v ≤ (k : Int) ∧ Fits T ∧ Fits T2) ∨ (¬ v < B ∧ ¬ v ≤ (k : Int) ∧ Fits T ∧ ¬ Fits T2) := by unfold Fits; omega
            have hvM : v + M = T2 := by omega
            rcases hcs with ⟨d1, d2, hf1, hf2⟩ | ⟨d1, d2, hf1, hf2⟩ | ⟨d1, d2, hf1, hf2⟩
            · clear hT2 hT1
              rw [show sumV T = 0 from if_neg hf1, show sumE T = 7 from if_neg hf1] at x1
              have bU1 := hf2.1
              have bU2 := hf2.2
              have wT2 : IntKind.i64.wrap T2 = T2 := by rw [IntKind.wrap_i64]; omega
              have HF2 := Lib.hid hf2
              clear hf1 hf2
              go_wp2_with fail
              (with_reducible refine x1.mono ?_)
              rintro e w4 ⟨rfl, h, hT⟩
              have q := below_step q hs hT
              clear x1 hT
              have x1 := set_ok b s mm _ _ i (9223372036854775807) w4 h hi1 ⟨by omega, by omega⟩
              go_wp2_with fail
              (with_reducible refine x1.mono ?_)
              rintro e w5 ⟨rfl, h, hT⟩
              have q := below_step q hs hT
              clear x1 hT
              have h := h.congr (Q' := ringQ t mm i) (U' := Um k v (9223372036854775807)) (fun _ _ => rfl) (fun y hy => HL.out _ y hy)
              have x1 := sum_ok b s mm _ _ i w5 h hi1
              rw [HR1.out, show sumV T2 = T2 from if_pos HF2.out, show sumE T2 = 0 from if_pos HF2.out] at x1
              go_wp2_with fail
              (with_reducible refine x1.mono ?_)
              rintro e w6 ⟨rfl, h, hT⟩
              have q := below_step q hs hT
              clear x1 hT
              have x1 := works_ok w6
              go_wp2_with fail
              (with_reducible refine x1.mono ?_)
              rintro e w7 ⟨rfl, b7⟩
              have q := below_end q q.size b7
              go_wp2_with fail
              go_ret
              exact ⟨rfl, q⟩
            · clear hvM
              rw [show sumV T = T from if_pos hf1, show sumE T = 0 from if_pos hf1] at x1
              have bT1 := hf1.1
              have bT2 := hf1.2
              have wT : IntKind.i64.wrap T = T := by rw [IntKind.wrap_i64]; omega
              have bU1 := hf2.1
              have bU2 := hf2.2
              have wT2 : IntKind.i64.wrap T2 = T2 := by rw [IntKind.wrap_i64]; omega
              have HF2 := Lib.hid hf2
              clear hf1 hf2
              go_wp2_with fail
              (with_reducible refine x1.mono ?_)
              rintro e w4 ⟨rfl, h, hT⟩
              have q := below_step q hs hT
              clear x1 hT
              have x1 := set_ok b s mm _ _ i (9223372036854775807) w4 h hi1 ⟨by omega, by omega⟩
              go_wp2_with fail
              (with_reducible refine x1.mono ?_)
              rintro e w5 ⟨rfl, h, hT⟩
              have q := below_step q hs hT
              clear x1 hT
              have h := h.congr (Q' := ringQ t mm i) (U' := Um k v (9223372036854775807)) (fun _ _ => rfl) (fun y hy => HL.out _ y hy)
              have x1 := sum_ok b s mm _ _ i w5 h hi1
              rw [HR1.out, show sumV T2 = T2 from if_pos HF2.out, show sumE T2 = 0 from if_pos HF2.out] at x1
              go_wp2_with fail
              (with_reducible refine x1.mono ?_)
              rintro e w6 ⟨rfl, h, hT⟩
              have q := below_step q hs hT
              clear x1 hT
              have x1 := works_ok w6
              go_wp2_with fail
              (with_reducible refine x1.mono ?_)
              rintro e w7 ⟨rfl, b7⟩
              have q := below_end q q.size b7
              go_wp2_with fail
              go_ret
              exact ⟨rfl, q⟩
            · clear hvM hT2
              have d3 : decide (v ≤ (k : Int)) = false := decide_eq_false d2
              rw [show sumV T = T from if_pos hf1, show sumE T = 0 from if_pos hf1] at x1
              have bT1 := hf1.1
              have bT2 := hf1.2
              have wT : IntKind.i64.wrap T = T := by rw [IntKind.wrap_i64]; omega
              have HF2 := Lib.hid hf2
              clear hf1 hf2
              go_wp2_with fail
              (with_reducible refine x1.mono ?_)
              rintro e w4 ⟨rfl, h, hT⟩
              have q := below_step q hs hT
              clear x1 hT
              have x1 := set_ok b s mm _ _ i (9223372036854775807) w4 h hi1 ⟨by omega, by omega⟩
              go_wp2_with fail
              (with_reducible refine x1.mono ?_)
              rintro e w5 ⟨rfl, h, hT⟩
              have q := below_step q hs hT
              clear x1 hT
              have h := h.congr (Q' := ringQ t mm i) (U' := Um k v (9223372036854775807)) (fun _ _ => rfl) (fun y hy => HL.out _ y hy)
              have x1 := sum_ok b s mm _ _ i w5 h hi1
              rw [HR1.out, show sumV T2 = 0 from if_neg HF2.out, show sumE T2 = 7 from if_neg HF2.out] at x1
              go_wp2_with fail
              (with_reducible refine x1.mono ?_)
              rintro e w6 ⟨rfl, h, hT⟩
              have q := below_step q hs hT
              clear x1 hT
              have x1 := works_ok w6
              go_wp2_with fail
              (with_reducible refine x1.mono ?_)
              rintro e w7 ⟨rfl, b7⟩
              have q := below_end q q.size b7
              go_wp2_with fail
              go_ret
              exact ⟨rfl, q⟩
          · obtain ⟨T2, hT2⟩ : ∃ T2 : Int, T + -9223372036854775808 = T2 := ⟨_, rfl⟩
            have R1 := RT (-9223372036854775808) i hi1
            rw [hT1, hT2] at R1
            have HR1 := Lib.hid R1
            clear R0 R1 RT
            have hcs : (¬ v < B ∧ (k : Int) ≤ v ∧ Fits T ∧ Fits T2) ∨ (¬ v < B ∧ ¬ (k : Int) ≤ v ∧ Fits T ∧ ¬ Fits T2) ∨ (v < B ∧ ¬ (k : Int) ≤ v ∧ ¬ Fits T ∧ ¬ Fits T2) := by unfold Fits; omega
            rcases hcs with ⟨d1, d2, hf1, hf2⟩ | ⟨d1, d2, hf1, hf2⟩ | ⟨d1, d2, hf1, hf2⟩
            · skip
              rw [show sumV T = T from if_pos hf1, show sumE T = 0 from if_pos hf1] at x1
              have bT1 := hf1.1
              have bT2 := hf1.2
              have wT : IntKind.i64.wrap T = T := by rw [IntKind.wrap_i64]; omega
              have bU1 := hf2.1
              have bU2 := hf2.2
              have wT2 : IntKind.i64.wrap T2 = T2 := by rw [IntKind.wrap_i64]; omega
              have HF2 := Lib.hid hf2
              clear hf1 hf2
              go_wp2_with fail
              (with_reducible refine x1.mono ?_)
              rintro e w4 ⟨rfl, h, hT⟩
              have q := below_step q hs hT
              clear x1 hT
              have x1 := set_ok b s mm _ _ i (-9223372036854775808) w4 h hi1 ⟨by omega, by omega⟩
              go_wp2_with fail
              (with_reducible refine x1.mono ?_)
              rintro e w5 ⟨rfl, h, hT⟩
              have q := below_step q hs hT
              clear x1 hT
              have h := h.congr (Q' := ringQ t mm i) (U' := Um k v (-9223372036854775808)) (fun _ _ => rfl) (fun y hy => HL.out _ y hy)
              have x1 := sum_ok b s mm _ _ i w5 h hi1
              rw [HR1.out, show sumV T2 = T2 from if_pos HF2.out, show sumE T2 = 0 from if_pos HF2.out] at x1
              go_wp2_with fail
              (with_reducible refine x1.mono ?_)
              rintro e w6 ⟨rfl, h, hT⟩
              have q := below_step q hs hT
              clear x1 hT
              have x1 := works_ok w6
              go_wp2_with fail
              (with_reducible refine x1.mono ?_)
              rintro e w7 ⟨rfl, b7⟩
              have q := below_end q q.size b7
              go_wp2_with fail
              go_ret
              exact ⟨rfl, q⟩
            · clear hT2
              have d3 : decide ((k : Int) ≤ v) = false := decide_eq_false d2
              rw [show sumV T = T from if_pos hf1, show sumE T = 0 from if_pos hf1] at x1
              have bT1 := hf1.1
              have bT2 := hf1.2
              have wT : IntKind.i64.wrap T = T := by rw [IntKind.wrap_i64]; omega
              have HF2 := Lib.hid hf2
              clear hf1 hf2
              go_wp2_with fail
              (with_reducible refine x1.mono ?_)
              rintro e w4 ⟨rfl, h, hT⟩
              have q := below_step q hs hT
              clear x1 hT
              have x1 := set_ok b s mm _ _ i (-9223372036854775808) w4 h hi1 ⟨by omega, by omega⟩
              go_wp2_with fail
              (with_reducible refine x1.mono ?_)
              rintro e w5 ⟨rfl, h, hT⟩
              have q := below_step q hs hT
              clear x1 hT
              have h := h.congr (Q' := ringQ t mm i) (U' := Um k v (-9223372036854775808)) (fun _ _ => rfl) (fun y hy => HL.out _ y hy)
              have x1 := sum_ok b s mm _ _ i w5 h hi1
              rw [HR1.out, show sumV T2 = 0 from if_neg HF2.out, show sumE T2 = 7 from if_neg HF2.out] at x1
              go_wp2_with fail
              (with_reducible refine x1.mono ?_)
              rintro e w6 ⟨rfl, h, hT⟩
              have q := below_step q hs hT
              clear x1 hT
              have x1 := works_ok w6
              go_wp2_with fail
              (with_reducible refine x1.mono ?_)
              rintro e w7 ⟨rfl, b7⟩
              have q := below_end q q.size b7
              go_wp2_with fail
              go_ret
              exact ⟨rfl, q⟩
            · clear hT2 hT1
              have d3 : decide ((k : Int) ≤ v) = false := decide_eq_false d2
              rw [show sumV T = 0 from if_neg hf1, show sumE T = 7 from if_neg hf1] at x1
              have HF2 := Lib.hid hf2
              clear hf1 hf2
              go_wp2_with fail
              (with_reducible refine x1.mono ?_)
              rintro e w4 ⟨rfl, h, hT⟩
              have q := below_step q hs hT
              clear x1 hT
              have x1 := set_ok b s mm _ _ i (-9223372036854775808) w4 h hi1 ⟨by omega, by omega⟩
              go_wp2_with fail
              (with_reducible refine x1.mono ?_)
              rintro e w5 ⟨rfl, h, hT⟩
              have q := below_step q hs hT
              clear x1 hT
              have h := h.congr (Q' := ringQ t mm i) (U' := Um k v (-9223372036854775808)) (fun _ _ => rfl) (fun y hy => HL.out _ y hy)
              have x1 := sum_ok b s mm _ _ i w5 h hi1
              rw [HR1.out, show sumV T2 = 0 from if_neg HF2.out, show sumE T2 = 7 from if_neg HF2.out] at x1
              go_wp2_with fail
              (with_reducible refine x1.mono ?_)
              rintro e w6 ⟨rfl, h, hT⟩
              have q := below_step q hs hT
              clear x1 hT
              have x1 := works_ok w6
              go_wp2_with fail
              (with_reducible refine x1.mono ?_)
              rintro e w7 ⟨rfl, b7⟩
              have q := below_end q q.size b7
              go_wp2_with fail
              go_ret
              exact ⟨rfl, q⟩
end Go.Proofs.Ytgichkjomhnehaa
