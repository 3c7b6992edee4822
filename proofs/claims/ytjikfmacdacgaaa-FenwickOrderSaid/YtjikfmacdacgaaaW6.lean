/-
  Add.
-/
import Derived.Test.YtjikfmacdacgaaaW4
set_option linter.unusedVariables false
set_option linter.unusedSimpArgs false
namespace Go.Proofs.Ytjikfmacdacgaaa
open Go.RowKit Go.Shelf Fw

attribute [local go_sem] Oper.semAt_some

section
variable {w w' : World} {b s n : Nat} {t : Nat → Int}
theorem FW.own {row : Option Nat} (h : FW w b s n t) (hg : w.grownBy w' row) (hr : ∀ r, row = some r → ∃ o : Obj, w.heap[r]? = some o ∧ o.isCells = false) : FW w' b s n t := by
  obtain ⟨c, cs, h1, h2, h3⟩ := h
  exact ⟨c, cs, h1.own hg hr, h2.own hg hr, h3⟩
theorem FW.set_ (h : FW w b s n t) (q : Nat) (v : Int) : FW (w.setCell ⟨s, q, none⟩ (.int .i64 v)) b s n (fun j => if j = q then v else t j) := by
  have hne := h.ne
  obtain ⟨c, cs, h1, h2, h3, h4⟩ := h
  refine ⟨c, _, h1.far (p := ⟨s, q, none⟩) hne _, h2.set_ q _, h3, fun i hi => ?_⟩
  have := h4 i hi
  rw [Array.getElem?_setIfInBounds]
  by_cases e : q = i
  · subst e
    rw [if_pos rfl]
    have hlt := (Array.getElem?_eq_some_iff.1 this).1
    rw [if_pos hlt]
    simp
  · rw [if_neg e, this]
    show _ = some (Value.int IntKind.i64 (if i = q then v else t i))
    rw [if_neg (Ne.symm e)]
theorem FW.drewN (h : FW w b s n t) : FW w.drew b s n t := h
theorem FW.putObj {D : Nat} {o o' : Obj} (h : FW w b s n t) (hk : w.heap[D]? = some o) (ho : o.isCells = false) : FW (w.putObj D o') b s n t :=
  h.own (grownBy_putObj' w D o') (fun r e => by cases e; exact ⟨o, hk, ho⟩)
end

theorem holders_any (p : Option Addr) (i : Int) (w : World) :
    Calls Try.prog 38 #[.pointer p, .int .i64 i] w fun e w' => e = .returned (.func (.func 45) #[] #[.pointer (some ⟨w.heap.size + 1, 0, none⟩), .pointer (some ⟨w.heap.size, 0, none⟩)]) ∧ (w.alloc (.cells #[.pointer p] 24)).alloc (.cells #[.int .i64 i] 3) = w' := by
  go_enter Try.func38, Try.ntmps38
  go_wp2
  go_ret
  exact ⟨rfl, rfl⟩

theorem holders_stops (Bi Bc b s n i c : Nat) (hi : i < n) (hn : n ≤ 65536) (w : World) (hBi : Blk w Bi 3 #[.int .i64 i]) (hBc : Blk w Bc 24 #[.pointer (some ⟨b, 0, none⟩)])
    (hb : Blk w b 59 #[.pointer (some ⟨b, 0, none⟩), .slice (some ⟨s, 0, none⟩) (n + 1) c]) :
    SeqStopsK Fence.wide 8 Try.prog 45 #[.pointer (some ⟨Bi, 0, none⟩), .pointer (some ⟨Bc, 0, none⟩)] (fun x : Nat => #[Value.int .i64 (cl n x : Nat)]) (fun W W' => W'.heap[Bc]? = W.heap[Bc]? ∧ W'.heap[b]? = W.heap[b]?) (IsUp n (i + 1)) (fun _ => True) (n + 1) w := fun l J Jx W hW _ _ hY h0 =>
  holders1_in l Bi Bc b s n i c hi hn J Jx hY W (by have := (hBi.below hW hBi.lt).cell 0; simpa using this) (hBc.below hW hBc.lt) (hb.below hW hb.lt) h0

theorem add_no (p : Option Addr) (i d : Int) (w : World) (h : NoFw w p) :
    Calls Try.prog 22 #[.pointer p, .int .i64 i, .int .i64 d] w fun e w' => e = .returned (.int .i64 1) ∧ Below w.heap.size w w' := by
  have hv0 : Below w.heap.size w ((w.alloc (.cells #[.pointer p] 24)).alloc (.cells #[.int .i64 d] 2)) := ((Below.refl _ _).alloc (Nat.le_refl _) _).alloc (by simp) _
  refine calls_of_marks Try.func22 rfl ?_
  simp only [Try.ntmps22, List.size_toArray, List.length_cons, List.length_nil, Nat.reduceAdd, Nat.reduceSub, Array.replicate_succ, Array.replicate_zero, List.push_toArray, List.append_toArray, List.nil_append, List.cons_append]
  go_wp2_with (go_at_call 33; refine (valid_no p _ (h.below hv0)).mono ?_; rintro e w' ⟨rfl, rfl⟩)
  exact postM_ret (results_tmp rfl _ _ _) rfl ⟨rfl, hv0⟩

theorem add_out (b s n : Nat) (C : Nat → Int) (i d : Int) (hi : i < 0 ∨ (n : Int) ≤ i) (w : World) (hfc : FC w b s n C) :
    Calls Try.prog 22 #[.pointer (some ⟨b, 0, none⟩), .int .i64 i, .int .i64 d] w fun e w' => e = .returned (.int .i64 3) ∧ Below w.heap.size w w' := by
  have hv0 : Below w.heap.size w ((w.alloc (.cells #[.pointer (some ⟨b, 0, none⟩)] 24)).alloc (.cells #[.int .i64 d] 2)) := ((Below.refl _ _).alloc (Nat.le_refl _) _).alloc (by simp) _
  have hf := hfc.below hv0
  rcases hi with hi | hi
  all_goals
    refine calls_of_marks Try.func22 rfl ?_
    simp only [Try.ntmps22, List.size_toArray, List.length_cons, List.length_nil, Nat.reduceAdd, Nat.reduceSub, Array.replicate_succ, Array.replicate_zero, List.push_toArray, List.append_toArray, List.nil_append, List.cons_append]
    go_wp2_with (first | (go_at_call 33; refine (valid_ok b s n _ _ hf.fw).mono ?_; rintro e w' ⟨rfl, rfl⟩) | (go_at_call 26; refine (len_ok b s n _ _ hf.fw hf.hn).mono ?_; rintro e w' ⟨rfl, rfl⟩))
    exact postM_ret (results_tmp rfl _ _ _) rfl ⟨rfl, hv0⟩

theorem add_neg (b s n : Nat) (C : Nat → Int) (i : Nat) (d : Int) (hi : i < n) (hd : -9223372036854775808 ≤ d) (hlt : C i + d < 0) (w : World) (hfc : FC w b s n C) :
    Calls Try.prog 22 #[.pointer (some ⟨b, 0, none⟩), .int .i64 i, .int .i64 d] w fun e w' => e = .returned (.int .i64 2) ∧ Below w.heap.size w w' := by
  have hn := hfc.hn
  have hv0 : Below w.heap.size w ((w.alloc (.cells #[.pointer (some ⟨b, 0, none⟩)] 24)).alloc (.cells #[.int .i64 d] 2)) := ((Below.refl _ _).alloc (Nat.le_refl _) _).alloc (by simp) _
  have k3 : Blk ((w.alloc (.cells #[.pointer (some ⟨b, 0, none⟩)] 24)).alloc (.cells #[.int .i64 d] 2)) w.heap.size 24 #[.pointer (some ⟨b, 0, none⟩)] := (Blk.new _ _ _).alloc _
  have k5 : Blk ((w.alloc (.cells #[.pointer (some ⟨b, 0, none⟩)] 24)).alloc (.cells #[.int .i64 d] 2)) (w.heap.size + 1) 2 #[.int .i64 d] := by have := Blk.new (w.alloc (.cells #[.pointer (some ⟨b, 0, none⟩)] 24)) 2 #[.int .i64 d]; simpa using this
  have hsz : ((w.alloc (.cells #[.pointer (some ⟨b, 0, none⟩)] 24)).alloc (.cells #[.int .i64 d] 2)).heap.size = w.heap.size + 1 + 1 := by simp
  refine calls_of_marks Try.func22 rfl ?_
  simp only [Try.ntmps22, List.size_toArray, List.length_cons, List.length_nil, Nat.reduceAdd, Nat.reduceSub, Array.replicate_succ, Array.replicate_zero, List.push_toArray, List.append_toArray, List.nil_append, List.cons_append]
  go_wp2_with fail
  generalize (w.alloc (.cells #[.pointer (some ⟨b, 0, none⟩)] 24)).alloc (.cells #[.int .i64 d] 2) = W0 at *
  have hf := hfc.below hv0
  have HZ := Lib.hid hsz
  clear hsz
  have c3 := k3.cell 0
  have c5 := k5.cell 0
  simp at c3 c5
  refine (valid_ok b s n _ _ hf.fw).mono ?_
  rintro e w' ⟨rfl, rfl⟩
  go_wp2_with (go_at_call 26; refine (len_ok b s n _ _ hf.fw hf.hn).mono ?_; rintro e w' ⟨rfl, rfl⟩)
  go_region_held3 (fun w' => w'.cell? ⟨w.heap.size, 0, none⟩ = some (.pointer (some ⟨b, 0, none⟩)) ∧ w'.cell? ⟨w.heap.size + 1, 0, none⟩ = some (.int .i64 d)) (go_keep)
    (first | (go_at_call 18; refine (get_ok b s n C i hi _ ?_).mono ?_; exact (hf.below (Below.refl _ _).drew); rintro e w1 ⟨v, rfl, hv, hv0', hv1, hb⟩; have c3' := (k3.drew.below hb k3.lt).cell 0; have c5' := (k5.drew.below hb k5.lt).cell 0; simp at c3' c5') | (go_at_call 37; refine (cadd_fit v d _ hv0' hv1 hd (by have := hv.out; omega)).mono ?_; rintro e w2 ⟨rfl, rfl⟩))
  have hlt' : v + d < 0 := by have := hv.out; omega
  all_goals go_wp2_with fail
  exact postM_ret (results_tmp rfl _ _ _) rfl ⟨rfl, hv0.drew.trans (hb.mono hv0.size)⟩

theorem add_over (b s n : Nat) (C : Nat → Int) (i : Nat) (d : Int) (hi : i < n) (hd : -9223372036854775808 ≤ d) (hd1 : d ≤ 9223372036854775807) (hlt : 0 ≤ C i + d) (hov : 9223372036854775807 < pre C n + d) (w : World) (hfc : FC w b s n C) :
    Calls Try.prog 22 #[.pointer (some ⟨b, 0, none⟩), .int .i64 i, .int .i64 d] w fun e w' => e = .returned (.int .i64 7) ∧ Below w.heap.size w w' := by
  have hn := hfc.hn
  have hv0 : Below w.heap.size w ((w.alloc (.cells #[.pointer (some ⟨b, 0, none⟩)] 24)).alloc (.cells #[.int .i64 d] 2)) := ((Below.refl _ _).alloc (Nat.le_refl _) _).alloc (by simp) _
  have k3 : Blk ((w.alloc (.cells #[.pointer (some ⟨b, 0, none⟩)] 24)).alloc (.cells #[.int .i64 d] 2)) w.heap.size 24 #[.pointer (some ⟨b, 0, none⟩)] := (Blk.new _ _ _).alloc _
  have k5 : Blk ((w.alloc (.cells #[.pointer (some ⟨b, 0, none⟩)] 24)).alloc (.cells #[.int .i64 d] 2)) (w.heap.size + 1) 2 #[.int .i64 d] := by have := Blk.new (w.alloc (.cells #[.pointer (some ⟨b, 0, none⟩)] 24)) 2 #[.int .i64 d]; simpa using this
  have hsz : ((w.alloc (.cells #[.pointer (some ⟨b, 0, none⟩)] 24)).alloc (.cells #[.int .i64 d] 2)).heap.size = w.heap.size + 1 + 1 := by simp
  refine calls_of_marks Try.func22 rfl ?_
  simp only [Try.ntmps22, List.size_toArray, List.length_cons, List.length_nil, Nat.reduceAdd, Nat.reduceSub, Array.replicate_succ, Array.replicate_zero, List.push_toArray, List.append_toArray, List.nil_append, List.cons_append]
  go_wp2_with fail
  generalize (w.alloc (.cells #[.pointer (some ⟨b, 0, none⟩)] 24)).alloc (.cells #[.int .i64 d] 2) = W0 at *
  have hf := hfc.below hv0
  have HZ := Lib.hid hsz
  clear hsz
  have c3 := k3.cell 0
  have c5 := k5.cell 0
  simp at c3 c5
  refine (valid_ok b s n _ _ hf.fw).mono ?_
  rintro e w' ⟨rfl, rfl⟩
  go_wp2_with (go_at_call 26; refine (len_ok b s n _ _ hf.fw hf.hn).mono ?_; rintro e w' ⟨rfl, rfl⟩)
  by_cases hfit : C i + d ≤ 9223372036854775807
  · go_region_held3 (fun w' => w'.cell? ⟨w.heap.size, 0, none⟩ = some (.pointer (some ⟨b, 0, none⟩)) ∧ w'.cell? ⟨w.heap.size + 1, 0, none⟩ = some (.int .i64 d)) (go_keep)
        (first | (go_at_call 18; refine (get_ok b s n C i hi _ ?_).mono ?_; exact (hf.below (Below.refl _ _).drew); rintro e w1 ⟨v, rfl, hv, hv0', hv1, hb⟩; have c3' := (k3.drew.below hb k3.lt).cell 0; have h3d := k3.drew.below hb k3.lt; have h5d := k5.drew.below hb k5.lt; have hf2 := (hf.below (Below.refl _ _).drew).below hb; have c5' := (k5.drew.below hb k5.lt).cell 0; simp at c3' c5') | (go_at_call 37; refine (cadd_fit v d _ hv0' hv1 hd (by have := hv.out; omega)).mono ?_; rintro e w2 ⟨rfl, rfl⟩))
    have hlt' : decide (v + d < 0) = false := by have := hv.out; simp; omega
    go_wp2_with fail
    go_region_held3 (fun w' => w'.cell? ⟨w.heap.size, 0, none⟩ = some (.pointer (some ⟨b, 0, none⟩)) ∧ w'.cell? ⟨w.heap.size + 1, 0, none⟩ = some (.int .i64 d)) (go_keep)
      (first | (go_at_call 19; refine (total_ok b s n C _ ?_).mono ?_; exact (hf2.below (Below.refl _ _).drew); rintro e w3 ⟨u, rfl, hu, hu0, hu1, hb2⟩; have c3' := (h3d.drew.below hb2 h3d.lt).cell 0; have c5' := (h5d.drew.below hb2 h5d.lt).cell 0; simp at c3' c5') | (go_at_call 37; refine (cadd_over u d _ hu0 hu1 hd1 (by have := hu.out; omega)).mono ?_; rintro e w4 ⟨rfl, rfl⟩))
    go_wp2_with fail
    exact postM_ret (results_tmp rfl _ _ _) rfl ⟨rfl, (hv0.drew.trans (hb.mono hv0.size)).drew.trans (hb2.mono (Nat.le_trans hv0.size hb.size))⟩
  · go_region_held3 (fun w' => w'.cell? ⟨w.heap.size, 0, none⟩ = some (.pointer (some ⟨b, 0, none⟩)) ∧ w'.cell? ⟨w.heap.size + 1, 0, none⟩ = some (.int .i64 d)) (go_keep)
        (first | (go_at_call 18; refine (get_ok b s n C i hi _ ?_).mono ?_; exact (hf.below (Below.refl _ _).drew); rintro e w1 ⟨v, rfl, hv, hv0', hv1, hb⟩; have c3' := (k3.drew.below hb k3.lt).cell 0; have h3d := k3.drew.below hb k3.lt; have h5d := k5.drew.below hb k5.lt; have hf2 := (hf.below (Below.refl _ _).drew).below hb; have c5' := (k5.drew.below hb k5.lt).cell 0; simp at c3' c5') | (go_at_call 37; refine (cadd_over v d _ hv0' hv1 hd1 (by have := hv.out; omega)).mono ?_; rintro e w2 ⟨rfl, rfl⟩))
    go_wp2_with fail
    go_region_held3 (fun w' => w'.cell? ⟨w.heap.size, 0, none⟩ = some (.pointer (some ⟨b, 0, none⟩)) ∧ w'.cell? ⟨w.heap.size + 1, 0, none⟩ = some (.int .i64 d)) (go_keep)
      (first | (go_at_call 19; refine (total_ok b s n C _ ?_).mono ?_; exact (hf2.below (Below.refl _ _).drew); rintro e w3 ⟨u, rfl, hu, hu0, hu1, hb2⟩; have c3' := (h3d.drew.below hb2 h3d.lt).cell 0; have c5' := (h5d.drew.below hb2 h5d.lt).cell 0; simp at c3' c5') | (go_at_call 37; refine (cadd_over u d _ hu0 hu1 hd1 (by have := hu.out; omega)).mono ?_; rintro e w4 ⟨rfl, rfl⟩))
    go_wp2_with fail
    exact postM_ret (results_tmp rfl _ _ _) rfl ⟨rfl, (hv0.drew.trans (hb.mono hv0.size)).drew.trans (hb2.mono (Nat.le_trans hv0.size hb.size))⟩

set_option maxRecDepth 100000 in
set_option maxHeartbeats 1000000 in
theorem add_good (b s n : Nat) (C : Nat → Int) (i : Nat) (d : Int) (hi : i < n) (hd : -9223372036854775808 ≤ d) (hlt : 0 ≤ C i + d) (hov : pre C n + d ≤ 9223372036854775807) (w : World) (hfc : FC w b s n C) :
    Calls Try.prog 22 #[.pointer (some ⟨b, 0, none⟩), .int .i64 i, .int .i64 d] w fun e w' => e = .returned (.int .i64 0) ∧ FC w' b s n (upd C i d) ∧ Turns (· = s) w w' := by
  have hn := hfc.hn
  have hv0 : Below w.heap.size w ((w.alloc (.cells #[.pointer (some ⟨b, 0, none⟩)] 24)).alloc (.cells #[.int .i64 d] 2)) := ((Below.refl _ _).alloc (Nat.le_refl _) _).alloc (by simp) _
  have k3 : Blk ((w.alloc (.cells #[.pointer (some ⟨b, 0, none⟩)] 24)).alloc (.cells #[.int .i64 d] 2)) w.heap.size 24 #[.pointer (some ⟨b, 0, none⟩)] := (Blk.new _ _ _).alloc _
  have k5 : Blk ((w.alloc (.cells #[.pointer (some ⟨b, 0, none⟩)] 24)).alloc (.cells #[.int .i64 d] 2)) (w.heap.size + 1) 2 #[.int .i64 d] := by have := Blk.new (w.alloc (.cells #[.pointer (some ⟨b, 0, none⟩)] 24)) 2 #[.int .i64 d]; simpa using this
  have hsz : ((w.alloc (.cells #[.pointer (some ⟨b, 0, none⟩)] 24)).alloc (.cells #[.int .i64 d] 2)).heap.size = w.heap.size + 1 + 1 := by simp
  refine calls_of_marks Try.func22 rfl ?_
  simp only [Try.ntmps22, List.size_toArray, List.length_cons, List.length_nil, Nat.reduceAdd, Nat.reduceSub, Array.replicate_succ, Array.replicate_zero, List.push_toArray, List.append_toArray, List.nil_append, List.cons_append]
  go_wp2_with fail
  generalize (w.alloc (.cells #[.pointer (some ⟨b, 0, none⟩)] 24)).alloc (.cells #[.int .i64 d] 2) = W0 at *
  have hf := hfc.below hv0
  have HZ := Lib.hid hsz
  clear hsz
  have c3 := k3.cell 0
  have c5 := k5.cell 0
  simp at c3 c5
  refine (valid_ok b s n _ _ hf.fw).mono ?_
  rintro e w' ⟨rfl, rfl⟩
  go_wp2_with (go_at_call 26; refine (len_ok b s n _ _ hf.fw hf.hn).mono ?_; rintro e w' ⟨rfl, rfl⟩)
  have hle : C i + d ≤ 9223372036854775807 := by
    have := (good_upd hfc.good hi hlt hov).le hi
    simpa [upd] using this
  go_region_held3 (fun w' => w'.cell? ⟨w.heap.size, 0, none⟩ = some (.pointer (some ⟨b, 0, none⟩)) ∧ w'.cell? ⟨w.heap.size + 1, 0, none⟩ = some (.int .i64 d)) (go_keep)
    (first | (go_at_call 18; refine (get_ok b s n C i hi _ ?_).mono ?_; exact (hf.below (Below.refl _ _).drew); rintro e w1 ⟨v, rfl, hv, hv0', hv1, hb⟩; have c3' := (k3.drew.below hb k3.lt).cell 0; have h3d := k3.drew.below hb k3.lt; have h5d := k5.drew.below hb k5.lt; have hf2 := (hf.below (Below.refl _ _).drew).below hb; have c5' := (k5.drew.below hb k5.lt).cell 0; simp at c3' c5') | (go_at_call 37; refine (cadd_fit v d _ hv0' hv1 hd (by have := hv.out; omega)).mono ?_; rintro e w2 ⟨rfl, rfl⟩))
  have hlt' : decide (v + d < 0) = false := by have := hv.out; simp; omega
  go_wp2_with fail
  go_region_held3 (fun w' => w'.cell? ⟨w.heap.size, 0, none⟩ = some (.pointer (some ⟨b, 0, none⟩)) ∧ w'.cell? ⟨w.heap.size + 1, 0, none⟩ = some (.int .i64 d)) (go_keep)
    (first | (go_at_call 19; refine (total_ok b s n C _ ?_).mono ?_; exact (hf2.below (Below.refl _ _).drew); rintro e w3 ⟨u, rfl, hu, hu0, hu1, hb2⟩; have c3' := (h3d.drew.below hb2 h3d.lt).cell 0; have c5' := (h5d.drew.below hb2 h5d.lt).cell 0; simp at c3' c5') | (go_at_call 37; refine (cadd_fit u d _ hu0 hu1 hd (by have := hu.out; omega)).mono ?_; rintro e w4 ⟨rfl, rfl⟩))
  go_wp2_with (go_at_call 38; refine (holders_any _ _ _).mono ?_; rintro e w5 ⟨rfl, rfl⟩)
  have hT0 : Turns (· = s) w w3 := Turns.of_below ((hv0.drew.trans (hb.mono hv0.size)).drew.trans (hb2.mono (Nat.le_trans hv0.size hb.size))) _
  have hf3 := ((hf2.below (Below.refl _ _).drew).below hb2)
  have hslt := hf3.fw.lt
  have hz : w.heap.size + 1 + 1 ≤ w3.heap.size := by rw [← HZ.out]; exact Nat.le_trans hb.size hb2.size
  have h3e := ((h3d.drew.below hb2 h3d.lt).alloc (.cells #[.pointer (some ⟨b, 0, none⟩)] 24)).alloc (.cells #[.int .i64 i] 3)
  have h5e := ((h5d.drew.below hb2 h5d.lt).alloc (.cells #[.pointer (some ⟨b, 0, none⟩)] 24)).alloc (.cells #[.int .i64 i] 3)
  have hBc := (Blk.new w3 24 #[.pointer (some ⟨b, 0, none⟩)]).alloc (.cells #[.int .i64 i] 3)
  have hBi : Blk ((w3.alloc (.cells #[.pointer (some ⟨b, 0, none⟩)] 24)).alloc (.cells #[.int .i64 i] 3)) (w3.heap.size + 1) 3 #[.int .i64 i] := by have := Blk.new (w3.alloc (.cells #[.pointer (some ⟨b, 0, none⟩)] 24)) 3 #[.int .i64 i]; simpa using this
  have hf5 := hf3.below (((Below.refl _ w3).alloc (Nat.le_refl _) (.cells #[.pointer (some ⟨b, 0, none⟩)] 24)).alloc (by simp) (.cells #[.int .i64 i] 3))
  have hT5 := (hT0.alloc (.cells #[.pointer (some ⟨b, 0, none⟩)] 24)).alloc (.cells #[.int .i64 i] 3)
  have hz5 : ((w3.alloc (.cells #[.pointer (some ⟨b, 0, none⟩)] 24)).alloc (.cells #[.int .i64 i] 3)).heap.size = w3.heap.size + 1 + 1 := by simp
  generalize (w3.alloc (.cells #[.pointer (some ⟨b, 0, none⟩)] 24)).alloc (.cells #[.int .i64 i] 3) = W5 at *
  obtain ⟨c, cs, kb, ks, hc, ht⟩ := id hf5.fw
  have hslt0 := hfc.fw.lt
  refine wpIn_wide.1 (wpIn_rangeFunc_ownF (F := Fence.wide) (n := 9) rfl (by decide) (gf := 45) (lb := #[.pointer (some ⟨w3.heap.size + 1, 0, none⟩), .pointer (some ⟨w3.heap.size, 0, none⟩)]) rfl trivial (enters_of Try.func45 (by kernel_rfl) rfl)
    (holders_stops (w3.heap.size + 1) w3.heap.size b s n i c hi hn _ hBi hBc kb) (fun h k => ⟨k.1.trans h.1, k.2.trans h.2⟩) (fun W l o o' hl _ _ _ => ⟨World.putObj_heap_other (by omega), World.putObj_heap_other (by omega)⟩) (Below.refl _ _) (fun _ => rfl)
    (fun pre W => (Blk W w.heap.size 24 #[.pointer (some ⟨b, 0, none⟩)] ∧ Blk W (w.heap.size + 1) 2 #[.int .i64 d] ∧ FW W b s n (upT (tree C) d n pre)) ∧ Turns (· = s) w W)
    (fun _ _ _ => False)
    (OwnFrom.and (Own.from (fun l A B row hs hg hr => ⟨hs.1.own hg hr, hs.2.1.own hg hr, hs.2.2.own hg hr⟩) _) (ownFrom_turns (by omega)))
    (fun _ _ _ _ _ hs _ _ => hs)
    ⟨⟨h3e, h5e, hf5.fw⟩, hT5⟩
    (fun x => { tmps := #[Value.pointer (some { block := b, off := 0 }), Value.int IntKind.i64 ↑i, Value.int IntKind.i64 d, Value.pointer (some { block := w.heap.size, off := 0 }), undef, Value.pointer (some { block := w.heap.size + 1, off := 0 }), Value.int IntKind.i64 0, Value.int IntKind.i64 (v + d), Value.int IntKind.i64 0, Value.int IntKind.i64 (u + d), Value.int IntKind.i64 0, .int .i64 (cl n x : Nat), Value.pointer (some { block := b, off := 0 }), Value.bool true, Value.bool false, Value.int IntKind.i64 ↑i, Value.bool (decide (↑i < 0)), Value.bool (decide (↑i < 0)), Value.int IntKind.i64 ↑i, Value.pointer (some { block := b, off := 0 }), Value.int IntKind.i64 ↑n, Value.bool false, Value.bool (decide (↑i < 0)), Value.tuple #[Value.int IntKind.i64 (v + d), Value.int IntKind.i64 0], Value.pointer (some { block := b, off := 0 }), Value.int IntKind.i64 ↑i, Value.int IntKind.i64 v, Value.int IntKind.i64 d, Value.tuple #[Value.int IntKind.i64 (v + d), Value.int IntKind.i64 0], Value.int IntKind.i64 (v + d), Value.int IntKind.i64 0, Value.int IntKind.i64 0, Value.bool true, Value.bool true, Value.int IntKind.i64 (v + d), Value.bool false, Value.bool false, Value.tuple #[Value.int IntKind.i64 (u + d), Value.int IntKind.i64 0], Value.pointer (some { block := b, off := 0 }), Value.int IntKind.i64 u, Value.int IntKind.i64 d, Value.tuple #[Value.int IntKind.i64 (u + d), Value.int IntKind.i64 0], Value.int IntKind.i64 (u + d), Value.int IntKind.i64 0, Value.int IntKind.i64 0, Value.bool false, undef, Value.pointer (some { block := b, off := 0 }), Value.int IntKind.i64 ↑i, Value.func (Fn.func 45) #[] #[Value.pointer (some { block := w3.heap.size + 1, off := 0 }), Value.pointer (some { block := w3.heap.size, off := 0 })], .int .i64 (cl n x : Nat), undef, undef, undef, undef, undef, undef, undef, undef, undef, undef], defers := [] }) ?assign ?body ?done ?stop)
  case assign =>
    intro l x W K hK
    gi_wp2
    exact hK
  case body =>
    rintro l pre x W ⟨⟨k0, k1, kf⟩, hT⟩ _
    have hx := cl_le n x
    have c0 := k0.cell 0
    have c1 := k1.cell 0
    obtain ⟨c', c2, hcn⟩ := kf.cell1
    have c3 := kf.at_ hx
    have f3 := kf.frozen (cl n x)
    simp at c0 c1
    have hmx : Try.prog.follows .mixedOrders = true := by kernel_rfl
    clear hT0 hf3 hslt h3e h5e hBc hBi hf5 hT5 kb ks hc ht hb hb2 hf2 h3d h5d hf k3 k5
    gi_wp2
    gi_region_with_o (fail)
    all_goals gi_wp2
    all_goals (try go_bits)
    all_goals
      refine ⟨(KeepsOthers.setCell _ _ _).trans (KeepsOthers.drew _), ⟨Below.heap_setCell W ⟨s, cl n x, none⟩ _ _ (fun e => by have e : w3.heap.size = s := e; omega), Below.heap_setCell W ⟨s, cl n x, none⟩ _ _ kf.ne⟩,
        ⟨(k0.far (p := ⟨s, cl n x, none⟩) (fun e => by have e : w.heap.size = s := e; omega) _).drew, (k1.far (p := ⟨s, cl n x, none⟩) (fun e => by have e : w.heap.size + 1 = s := e; omega) _).drew, ?_⟩, (hT.setCell (p := ⟨s, cl n x, none⟩) (.inr rfl) _).drew⟩
      refine ((kf.set_ (cl n x) _).congr (fun q _ => ?_)).drewN
      rw [upT_snoc]
      show (if q = cl n x then _ else _) = (if q = cl n x then _ else _)
      by_cases e : q = cl n x
      · rw [if_pos e, if_pos e, e, wrap64_eq_w64]
      · rw [if_neg e, if_neg e]
  case done =>
    rintro D ys W hD hys ⟨⟨_, _, kf⟩, hT⟩ hK
    go_wp2
    refine postM_mark rfl hK (results_tmp rfl _ _ _) ?_
    exact ⟨rfl, ⟨(kf.putObj (D := D) (o' := .deferred none) hK rfl).congr (fun q hq => up_all hfc.good hi hlt hov hys q hq), hfc.hn, good_upd hfc.good hi hlt hov⟩, turns_putObj hT (by omega)⟩
  case stop =>
    rintro D c pre W _ _ h _
    exact h.elim

end Go.Proofs.Ytjikfmacdacgaaa
