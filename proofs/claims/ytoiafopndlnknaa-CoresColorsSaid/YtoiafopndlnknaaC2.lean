/-
  The buckets: take, walked.
-/
import Derived.Test.YtoiafopndlnknaaC1
import Derived.WalkMore
set_option linter.unusedVariables false
set_option linter.unusedSimpArgs false
namespace Go.Proofs.Ytoiafopndlnknaa
open Go.RowKit Go.Shelf

/-- the filter in place: i read, kl kept -/
def IP (L : Nat → Bool) (D : Nat → Nat) (lo : Nat) (l : List Nat) (i kl : Nat) (F : Nat → Int) (vm : Int) : Prop :=
  kl = (keepF L D lo (l.take i)).length ∧ (∀ j, j < kl → F j = ((keepF L D lo (l.take i)).getD j 0 : Nat)) ∧ (∀ j, i ≤ j → j < l.length → F j = (l.getD j 0 : Nat)) ∧ vm = minL (keepF L D lo (l.take i)) ∧ kl ≤ i
section
variable {L : Nat → Bool} {D : Nat → Nat} {lo i kl u : Nat} {l : List Nat} {F : Nat → Int} {vm vm' : Int}
theorem IP.start (L : Nat → Bool) (D : Nat → Nat) (lo : Nat) (l : List Nat) : IP L D lo l 0 0 (fun i => ((l.getD i 0 : Nat) : Int)) (-1) :=
  ⟨rfl, fun j hj => by omega, fun j _ hj => rfl, rfl, Nat.le_refl _⟩
theorem IP.at_ (h : IP L D lo l i kl F vm) {j : Nat} (h1 : i ≤ j) (h2 : j < l.length) : F j = (l.getD j 0 : Nat) := h.2.2.1 j h1 h2
theorem take_snoc (hi : i < l.length) (hu : l.getD i 0 = u) : l.take (i + 1) = l.take i ++ [u] := by
  rw [List.take_succ_eq_append_getElem hi]
  rw [List.getD_eq_getElem?_getD, List.getElem?_eq_getElem hi] at hu
  simp at hu
  rw [hu]
theorem keepF_snoc (l : List Nat) (u : Nat) : keepF L D lo (l ++ [u]) = keepF L D lo l ++ if (L u && D u == lo) = true then [u] else [] := by
  unfold keepF
  rw [List.filter_append]
  congr 1
  by_cases h : (L u && D u == lo) = true
  · rw [if_pos h, List.filter_cons, if_pos h, List.filter_nil]
  · rw [if_neg h, List.filter_cons, if_neg h, List.filter_nil]
theorem IP.no (h : IP L D lo l i kl F vm) (hi : i < l.length) (hu : l.getD i 0 = u) (hn : (L u && D u == lo) = false) : IP L D lo l (i + 1) kl F vm := by
  obtain ⟨h1, h2, h3, h4, h5⟩ := h
  have e : keepF L D lo (l.take (i + 1)) = keepF L D lo (l.take i) := by
    rw [take_snoc hi hu, keepF_snoc, if_neg (by rw [hn]; simp), List.append_nil]
  rw [IP, e]
  exact ⟨h1, h2, fun j hj hl => h3 j (by omega) hl, h4, by omega⟩
theorem IP.yes (h : IP L D lo l i kl F vm) (hi : i < l.length) (hu : l.getD i 0 = u) (hy : (L u && D u == lo) = true) (hv : minS vm u = vm') : IP L D lo l (i + 1) (kl + 1) (fun j => if j = kl then (u : Int) else F j) vm' := by
  obtain ⟨h1, h2, h3, h4, h5⟩ := h
  have e : keepF L D lo (l.take (i + 1)) = keepF L D lo (l.take i) ++ [u] := by
    rw [take_snoc hi hu, keepF_snoc, if_pos hy]
  rw [IP, e]
  refine ⟨by rw [List.length_append, ← h1]; rfl, fun j hj => ?_, fun j hj hl => ?_, ?_, by omega⟩
  · show (if j = kl then (u : Int) else F j) = _
    rw [List.getD_eq_getElem?_getD]
    by_cases hjk : j = kl
    · subst hjk
      rw [if_pos rfl, List.getElem?_append_right (by omega), ← h1, Nat.sub_self]
      rfl
    · rw [if_neg hjk, List.getElem?_append_left (by omega), h2 j (by omega), List.getD_eq_getElem?_getD]
  · show (if j = kl then (u : Int) else F j) = _
    rw [if_neg (by omega)]
    exact h3 j (by omega) hl
  · rw [minL_snoc, ← h4, hv]
theorem IP.done (h : IP L D lo l i kl F vm) (hi : l.length ≤ i) : kl = (keepF L D lo l).length ∧ (∀ j, j < kl → F j = ((keepF L D lo l).getD j 0 : Nat)) ∧ vm = minL (keepF L D lo l) := by
  obtain ⟨h1, h2, h3, h4, h5⟩ := h
  rw [List.take_of_length_le hi] at h1 h2 h4
  exact ⟨h1, h2, h4⟩
end
/-- what take gives -/
def TakeR (w : World) (b gd gm n B : Nat) (L : Nat → Bool) (D : Nat → Nat) (X : Nat → Prop) (e : Ending) (w' : World) : Prop :=
  ∃ v d mem', e = .returned (.tuple #[.int .i64 (v : Nat), .int .i64 (d : Nat)]) ∧ IsLeast n L D v d ∧ d < B ∧ Bk w' b gd gm n B (dvOf (rem L v) D) mem' d X ∧ BkI n (rem L v) D mem' d B ∧ Tn X w w'
set_option maxRecDepth 100000 in
set_option maxHeartbeats 2500000 in
theorem take_ok {w : World} {b gd gm n B low : Nat} {L : Nat → Bool} {D : Nat → Nat} {mem : Nat → List Nat} {X : Nat → Prop} (h : Bk w b gd gm n B (dvOf L D) mem low X) (hI : BkI n L D mem low B) (hex : ∃ u, u < n ∧ L u = true) :
    Calls Try.prog 55 #[.pointer (some ⟨b, 0, none⟩)] w fun e w' => TakeR w b gd gm n B L D X e w' := by
  have HI := Lib.hid hI
  have HX := Lib.hid hex
  have hT0 := Tn.refl X w
  obtain ⟨hn, hBB, _⟩ := h.nb
  clear hI hex
  go_enter Try.func55, Try.ntmps55
  go_wp2
  go_step3
  go_wp2
  go_step3
  go_wp2
  go_loopg [2, 4, 6] (B - low) (fun m v2 _ _ wr => ∃ (mem' : Nat → List Nat) (lo : Nat), m = B - lo ∧ v2 = .int .i64 (-1) ∧ Bk wr b gd gm n B (dvOf L D) mem' lo X ∧ Hid (BkI n L D mem' lo B) ∧ Tn X w wr)
  case atStart => exact ⟨mem, low, rfl, rfl, h, HI, hT0⟩
  case round =>
    clear h HI hT0
    obtain ⟨mem', lo, rfl, rfl, hB, HI, hT⟩ := hrel
    have hloB : lo < B := by
      obtain ⟨u, hu, hl⟩ := HX.out
      have := HI.out.low u hu hl
      have := (HI.out.has u hu hl).1
      omega
    have hlo2 : (lo : Int) < (B : Int) := by omega
    obtain ⟨c0, c1, c2⟩ := hB.cells
    go_upto_region 2 with fail
    go_quiet (fail)
    have hB : Bk (wr.drewN nq) b gd gm n B (dvOf L D) mem' lo X := hB.below (below_drewN (Below.refl _ _) nq)
    have hT : Tn X w (wr.drewN nq) := hT.trans ⟨Turns.of_below (below_drewN (Below.refl _ _) nq) _, ⟨Nat.le_refl _, fun _ _ hk _ => hk⟩⟩
    clear c0 c1 c2
    generalize wr.drewN nq = W1 at *
    clear nq
    obtain ⟨c0, c1, c2⟩ := hB.cells
    obtain ⟨v, e1, r1, o1, f1⟩ := hB.ms.lists hloB
    obtain ⟨A, c, rfl⟩ := r1.slice
    by_cases hc0 : c = 0
    · subst hc0
      have hl0 : mem' lo = [] := by
        rcases r1.2 with ⟨e, h0⟩ | ⟨g, cap, cur, hv, hg, hh, hc, hm, hs, ht⟩
        · exact List.length_eq_zero_iff.1 h0
        · cases hv
          exact List.length_eq_zero_iff.1 (by omega)
      rw [hl0] at e1 r1
      simp only [List.length_nil] at e1 r1
      have HI2 := Lib.hid (show BkI n L D (upd mem' lo []) lo B from by have := HI.out.keep hloB; rw [hl0] at this; exact this)
      have HKE := Lib.hid (show keepF L D lo (upd mem' lo [] lo) = [] from by simp [upd, keepF])
      clear HI hl0 o1
      go_upto_region 4 with fail
      go_quiet (fail)
      have hB : Bk (W1.drewN nq) b gd gm n B (dvOf L D) mem' lo X := hB.below (below_drewN (Below.refl _ _) nq)
      have hT : Tn X w (W1.drewN nq) := hT.trans ⟨Turns.of_below (below_drewN (Below.refl _ _) nq) _, ⟨Nat.le_refl _, fun _ _ hk _ => hk⟩⟩
      have e1 : (W1.drewN nq).cell? ⟨gm, lo, none⟩ = some (.slice A 0 0) := e1
      have r1 : RowL (W1.drewN nq) 0 (.slice A 0 0) [] := r1.below (below_drewN (Below.refl _ _) nq)
      have f1 : (W1.drewN nq).frozen? ⟨gm, lo, none⟩ = false := f1
      clear c0 c1 c2
      generalize W1.drewN nq = W2 at *
      clear nq
      obtain ⟨c0, c1, c2⟩ := hB.cells
      go_upto_region 5 with fail
      go_quiet (fail)
      have hB : Bk (W2.drewN nq) b gd gm n B (dvOf L D) mem' lo X := hB.below (below_drewN (Below.refl _ _) nq)
      have hT : Tn X w (W2.drewN nq) := hT.trans ⟨Turns.of_below (below_drewN (Below.refl _ _) nq) _, ⟨Nat.le_refl _, fun _ _ hk _ => hk⟩⟩
      have e1 : (W2.drewN nq).cell? ⟨gm, lo, none⟩ = some (.slice A 0 0) := e1
      have r1 : RowL (W2.drewN nq) 0 (.slice A 0 0) [] := r1.below (below_drewN (Below.refl _ _) nq)
      have f1 : (W2.drewN nq).frozen? ⟨gm, lo, none⟩ = false := f1
      clear c0 c1 c2
      generalize W2.drewN nq = W3 at *
      clear nq
      obtain ⟨c0, c1, c2⟩ := hB.cells
      obtain ⟨t1, t2, t3, t4, t5⟩ := hB.grow hloB e1 r1 (grow_refl _ _) (.inl rfl)
      go_wp2_with fail
      go_loopw [2, 4, 6, 46] (fun v2 v4 _ v46 wi => v2 = .int .i64 (-1) ∧ v4 = .slice A 0 0 ∧ v46 = .int .i64 0 ∧ wi = W3) (fun _ _ _ _ _ => 0)
      case atStart => exact ⟨rfl, rfl, rfl, rfl⟩
      case round =>
        obtain ⟨rfl, rfl, rfl, rfl⟩ := hrel
        go_upto_region 13 with fail
        go_region
        have hB2 : Bk (wr.setCell ⟨gm, lo, none⟩ (.slice A 0 0)).drew b gd gm n B (dvOf L D) _ lo X := t4.below (bdrew (Below.refl _ _))
        have hT2 : Tn X w (wr.setCell ⟨gm, lo, none⟩ (.slice A 0 0)).drew := (hT.trans t5).trans ⟨Turns.of_below (bdrew (Below.refl _ _)) _, KeepsOthers.drew _⟩
        clear t1 t2 t3 t4 t5
        generalize (wr.setCell ⟨gm, lo, none⟩ (.slice A 0 0)).drew = W5 at *
        clear hB hT e1 r1 f1 c0 c1 c2
        have hlt1 : lo + 1 ≤ B := by omega
        obtain ⟨p0, p1, p2⟩ := hB2.cells
        have p3 := hB2.box.frozen 2
        obtain ⟨g1, g2⟩ := hB2.setLow (lo + 1) (by omega)
        have HI3 := Lib.hid (HI2.out.next hloB HKE.out)
        have hT3 := hT2.trans g2
        have elo : ((lo : Int) + 1) = ((lo + 1 : Nat) : Int) := by omega
        rw [← elo] at g1 hT3
        have G1 := Lib.hid g1
        have HT3 := Lib.hid hT3
        clear hB2 hT2 g2 HI2 HKE g1 hT3 elo
        go_wp2_with fail
        go_roundg (B - (lo + 1))
        case measure => omega
        case rel => exact ⟨_, lo + 1, rfl, rfl, G1.out, HI3, HT3.out⟩
    · go_upto_region 4 with fail
      go_quiet (fail)
      have hB : Bk (W1.drewN nq) b gd gm n B (dvOf L D) mem' lo X := hB.below (below_drewN (Below.refl _ _) nq)
      have hT : Tn X w (W1.drewN nq) := hT.trans ⟨Turns.of_below (below_drewN (Below.refl _ _) nq) _, ⟨Nat.le_refl _, fun _ _ hk _ => hk⟩⟩
      have e1 : (W1.drewN nq).cell? ⟨gm, lo, none⟩ = some (.slice A (mem' lo).length c) := e1
      have r1 : RowL (W1.drewN nq) 0 (.slice A (mem' lo).length c) (mem' lo) := r1.below (below_drewN (Below.refl _ _) nq)
      have f1 : (W1.drewN nq).frozen? ⟨gm, lo, none⟩ = false := f1
      clear c0 c1 c2
      generalize W1.drewN nq = W2 at *
      clear nq
      obtain ⟨c0, c1, c2⟩ := hB.cells
      go_upto_region 5 with fail
      go_quiet (fail)
      have hB : Bk (W2.drewN nq) b gd gm n B (dvOf L D) mem' lo X := hB.below (below_drewN (Below.refl _ _) nq)
      have hT : Tn X w (W2.drewN nq) := hT.trans ⟨Turns.of_below (below_drewN (Below.refl _ _) nq) _, ⟨Nat.le_refl _, fun _ _ hk _ => hk⟩⟩
      have e1 : (W2.drewN nq).cell? ⟨gm, lo, none⟩ = some (.slice A (mem' lo).length c) := e1
      have r1 : RowL (W2.drewN nq) 0 (.slice A (mem' lo).length c) (mem' lo) := r1.below (below_drewN (Below.refl _ _) nq)
      have f1 : (W2.drewN nq).frozen? ⟨gm, lo, none⟩ = false := f1
      clear c0 c1 c2
      generalize W2.drewN nq = W3 at *
      clear nq
      obtain ⟨c0, c1, c2⟩ := hB.cells
      have hAn : A ≠ none := fun e => by
        rcases r1.2 with ⟨e2, _⟩ | ⟨g, cap, cur, hv, _⟩
        · exact hc0 (Value.slice.inj e2).2.2
        · rw [e] at hv; cases hv
      obtain ⟨g, rfl, _, hkc, hcm, rs⟩ := RowS.of_list r1 hAn
      have hgne : g ≠ b ∧ g ≠ gd ∧ g ≠ gm := by
        obtain ⟨cs, s1, _⟩ := rs
        obtain ⟨o2, _, o3⟩ := o1 g rfl
        exact ⟨fun e => hB.box.ne_ (t' := 3) (cs' := cs) s1 (by decide) e.symm, fun e => o2 (.inr e), o3⟩
      have HLU := Lib.hid (fun u hu => HI.out.lt lo hloB u hu)
      have hkb : (mem' lo).length ≤ 4096 := by
        have := nodup_sub (HI.out.nd lo hloB) (m := List.range n) (fun x hx => by have := HI.out.lt lo hloB x hx; simpa using this)
        rw [List.length_range] at this
        omega
      have HIK := Lib.hid (HI.out.keep hloB)
      have HIO := HI
      obtain ⟨l, hl⟩ : ∃ l, mem' lo = l := ⟨_, rfl⟩
      rw [hl] at e1 r1 rs hkc HLU HIK hkb
      have HLE := Lib.hid hl
      rw [hl]
      obtain ⟨k, hk⟩ : ∃ k, l.length = k := ⟨_, rfl⟩
      rw [hk] at e1 rs hkc hkb
      have HK := Lib.hid hk
      rw [hk]
      have HP0 := Lib.hid (IP.start L D lo l)
      have hgr0 := grow_refl W3 (some g)
      clear hl hk HI r1 o1 hAn
      go_wp2_with fail
      go_loopg [2, 4, 6, 46] k (fun m v2 v4 _ v46 wi => ∃ (i : Nat) (F : Nat → Int) (kl : Nat) (vm : Int), m = k - i ∧ v2 = .int .i64 vm ∧ v4 = .slice (some ⟨g, 0, none⟩) kl c ∧ v46 = .int .i64 i ∧ i ≤ k ∧ kl ≤ i ∧ RowS wi g k c F ∧ W3.grownBy wi (some g) ∧ Hid (IP L D lo l i kl F vm))
      case atStart => exact ⟨0, _, 0, -1, rfl, rfl, rfl, rfl, Nat.zero_le _, Nat.le_refl _, rs, hgr0, HP0⟩
      case round =>
        clear rs hgr0 HP0
        obtain ⟨i, F, kl, vm, rfl, rfl, rfl, rfl, hik, hkl, rs, hgr, HP⟩ := hrel
        by_cases hlt : i < k
        · have hik3 : (i : Int) < (k : Int) := by omega
          have hik2 : i < l.length := by rw [HK.out]; exact hlt
          obtain ⟨u, hgu⟩ : ∃ u, l.getD i 0 = u := ⟨_, rfl⟩
          have c7 := rs.cell hlt
          rw [HP.out.at_ (Nat.le_refl _) hik2, hgu] at c7
          have hun : u < n := HLU.out u (by rw [← hgu, List.getD_eq_getElem?_getD, List.getElem?_eq_getElem hik2]; exact List.getElem_mem hik2)
          have hun2 : (u : Int) < (n : Int) := by omega
          obtain ⟨q0, q1, q2, q3⟩ := hB.beside hgr hgne
          have q4 := q3 u hun
          have HY := Lib.hid (dvOf_eq (L := L) (D := D) (u := u) (lo := lo))
          obtain ⟨x, hx⟩ : ∃ x, dvOf L D u = x := ⟨_, rfl⟩
          rw [hx] at q4 HY
          clear q3 hx
          go_upto_region 8 with fail
          go_quiet (fail)
          have rs : RowS (wr.drewN nq) g k c F := rs
          have hgr : W3.grownBy (wr.drewN nq) (some g) := grow_drewN hgr nq
          clear q0 q1 q2 q4 c7
          generalize wr.drewN nq = W4 at *
          by_cases hxl : x = (lo : Nat)
          · subst hxl
            have hY := HY.out.1 rfl
            have HY2 := Lib.hid (show (L u && D u == lo) = true from by simp [hY.1, hY.2])
            clear HY
            have KC := Lib.hid (show (W4.alloc (.cells #[.int .i64 (u : Int)] 3)).cell? ⟨W4.heap.size, 0, none⟩ = some (.int .i64 (u : Int)) from (Blk.new W4 3 #[.int .i64 (u : Int)]).cell 0)
            have rsA := rs.below (below_new1 W4 (.cells #[.int .i64 (u : Int)] 3))
            have grA := grow_alloc hgr (.cells #[.int .i64 (u : Int)] 3)
            have hklk : kl < k := by omega
            clear rs hgr hY
            by_cases h1 : vm < 0
            · go_wp2_with (at_builtin; refine wpList_append_room1 rfl _ _ rfl g k c kl F u W4.heap.size rfl rsA rfl KC.out hklk hkc ?_; intro w5 rs5 gr5; have gr6 := grA.trans gr5)
              go_roundg (k - (i + 1))
              case measure => omega
              case rel => exact ⟨i + 1, _, kl + 1, (u : Nat), rfl, rfl, rfl, by simp, by omega, by omega, rs5, gr6, Lib.hid (HP.out.yes hik2 hgu HY2.out (by unfold minS; rw [if_pos (.inl h1)]))⟩
            · by_cases h2 : (u : Int) < vm
              · go_wp2_with (at_builtin; refine wpList_append_room1 rfl _ _ rfl g k c kl F u W4.heap.size rfl rsA rfl KC.out hklk hkc ?_; intro w5 rs5 gr5; have gr6 := grA.trans gr5)
                go_roundg (k - (i + 1))
                case measure => omega
                case rel => exact ⟨i + 1, _, kl + 1, (u : Nat), rfl, rfl, rfl, by simp, by omega, by omega, rs5, gr6, Lib.hid (HP.out.yes hik2 hgu HY2.out (by unfold minS; rw [if_pos (.inr h2)]))⟩
              · go_wp2_with (at_builtin; refine wpList_append_room1 rfl _ _ rfl g k c kl F u W4.heap.size rfl rsA rfl KC.out hklk hkc ?_; intro w5 rs5 gr5; have gr6 := grA.trans gr5)
                go_roundg (k - (i + 1))
                case measure => omega
                case rel => exact ⟨i + 1, _, kl + 1, vm, rfl, rfl, rfl, by simp, by omega, by omega, rs5, gr6, Lib.hid (HP.out.yes hik2 hgu HY2.out (by unfold minS; rw [if_neg (by omega)]))⟩
          · have hx1 : (x == (lo : Int)) = false := by rw [beq_eq_false_iff_ne]; exact hxl
            have HN := Lib.hid (show (L u && D u == lo) = false from by
              cases hh : (L u && D u == lo)
              · rfl
              · simp at hh
                exact absurd (HY.out.2 hh) hxl)
            go_wp2_with fail
            go_roundg (k - (i + 1))
            case measure => omega
            case rel => exact ⟨i + 1, F, kl, vm, rfl, rfl, rfl, by simp, by omega, by omega, rs, hgr, Lib.hid (HP.out.no hik2 hgu HN.out)⟩
        · have eik : k = i := by omega
          subst eik
          have hik3 : ¬ (k : Int) < (k : Int) := by omega
          obtain ⟨hp1, hp2, hp3⟩ := HP.out.done (by rw [HK.out]; exact Nat.le_refl _)
          have hr : RowL wr 0 (.slice (some ⟨g, 0, none⟩) kl c) (keepF L D lo l) := by
            have := rs.to_list (l := keepF L D lo l) (by rw [← hp1]; exact hkl) hkc hcm (fun j hj => hp2 j (by rw [hp1]; exact hj))
            rwa [← hp1] at this
          obtain ⟨t1, t2, t3, t4, t5⟩ := hB.grow hloB e1 hr hgr (.inl rfl)
          obtain ⟨q0, q1, q2, q3⟩ := hB.beside hgr hgne
          have HV := Lib.hid hp3
          clear hp1 hp2 hp3 hr q3 rs hgr HP
          go_upto_region 13 with fail
          go_region
          have hB2 : Bk (wr.setCell ⟨gm, lo, none⟩ (.slice (some ⟨g, 0, none⟩) kl c)).drew b gd gm n B (dvOf L D) _ lo X := t4.below (bdrew (Below.refl _ _))
          have hT2 : Tn X w (wr.setCell ⟨gm, lo, none⟩ (.slice (some ⟨g, 0, none⟩) kl c)).drew := (hT.trans t5).trans ⟨Turns.of_below (bdrew (Below.refl _ _)) _, KeepsOthers.drew _⟩
          clear t1 t2 t3 t4 t5
          generalize (wr.setCell ⟨gm, lo, none⟩ (.slice (some ⟨g, 0, none⟩) kl c)).drew = W5 at *
          clear hB hT e1 f1 c0 c1 c2 q0 q1 q2
          have HI2 := HIK
          rcases minL_cases (keepF L D lo l) with ⟨hk0, hm⟩ | ⟨m, hm1, hm2, hm3⟩
          · have HKE := Lib.hid (show keepF L D lo (upd mem' lo (keepF L D lo l) lo) = [] from by simp only [upd, if_pos]; rw [hk0]; rfl)
            have hv1 : vm = -1 := HV.out.trans hm
            subst hv1
            clear hm hk0
            have hlt1 : lo + 1 ≤ B := by omega
            obtain ⟨p0, p1, p2⟩ := hB2.cells
            have p3 := hB2.box.frozen 2
            obtain ⟨g1, g2⟩ := hB2.setLow (lo + 1) (by omega)
            have HI3 := Lib.hid (HI2.out.next hloB HKE.out)
            have hT3 := hT2.trans g2
            have elo : ((lo : Int) + 1) = ((lo + 1 : Nat) : Int) := by omega
            rw [← elo] at g1 hT3
            have G1 := Lib.hid g1
            have HT3 := Lib.hid hT3
            clear hB2 hT2 g2 HI2 HKE g1 hT3 elo
            go_wp2_with fail
            go_roundg (B - (lo + 1))
            case measure => omega
            case rel => exact ⟨_, lo + 1, rfl, rfl, G1.out, HI3, HT3.out⟩
          · have hv1 : vm = (m : Nat) := HV.out.trans hm2
            subst hv1
            have hfound := HIO.out.found hloB (v := m) (by rw [HLE.out]; exact hm1) (by rw [HLE.out]; exact hm3)
            have HF := Lib.hid hfound
            have HI3 := Lib.hid (HI2.out.gone m)
            have hmn := hfound.1
            have hmn2 : (m : Int) < (n : Int) := by omega
            obtain ⟨s1, s2⟩ := hB2.setD m (-1)
            rw [← dvOf_rem] at s1
            have c3 := hB2.deg.cell hmn
            have c4 := hB2.deg.frozen m
            obtain ⟨c0, c1, c2⟩ := hB2.cells
            have hT3 := hT2.trans s2
            clear hfound hm1 hm2 hm3 hB2 hT2 s2
            go_upto_region 18 with fail
            generalize W5.setCell ⟨gd, m, none⟩ (.int .i64 (-1)) = W6 at *
            clear c0 c1 c2 c3 c4
            obtain ⟨c0, c1, c2⟩ := s1.cells
            go_quiet (fail)
            have hB3 : Bk (W6.drewN nq) b gd gm n B (dvOf (rem L m) D) _ lo X := s1.below (below_drewN (Below.refl _ _) nq)
            have hT4 : Tn X w (W6.drewN nq) := hT3.trans ⟨Turns.of_below (below_drewN (Below.refl _ _) nq) _, ⟨Nat.le_refl _, fun _ _ hk _ => hk⟩⟩
            go_wp2_with fail
            try rw [Exit.noGoto_ret]
            go_ret2
            exact ⟨m, lo, _, rfl, HF.out, hloB, hB3, HI3.out, hT4⟩
end Go.Proofs.Ytoiafopndlnknaa
