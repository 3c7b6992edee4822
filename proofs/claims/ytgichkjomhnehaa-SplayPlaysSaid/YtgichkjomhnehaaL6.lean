/-
  SplayTurns, walked.
-/
import Derived.Test.YtgichkjomhnehaaL7
set_option linter.unusedVariables false
set_option linter.unusedSimpArgs false
namespace Go.Proofs.Ytgichkjomhnehaa
open Go.RowKit Go.Shelf

theorem RowL.form {w : World} {B : Nat} {v : Value} {l : List Nat} (h : RowL w B v l) (hl : ∀ x ∈ l, x ≤ 1000000) (hp : 0 < l.length) : ∃ g c, v = .slice (some ⟨g, 0, none⟩) l.length c := by
  obtain ⟨g, c, hv, _⟩ := h.cut hl 0 hp
  exact ⟨g, c, hv⟩
theorem RowL.cell {w : World} {B g n c : Nat} {l : List Nat} (h : RowL w B (.slice (some ⟨g, 0, none⟩) n c) l) (hl : ∀ x ∈ l, x ≤ 1000000) {i : Nat} (hi : i < l.length) : w.cell? ⟨g, i, none⟩ = some (.int .i64 ((l.getD i 0 : Nat) : Int)) := by
  obtain ⟨g', c', hv, _, _, _, _, _, _, al⟩ := h.cut hl 0 (by omega)
  cases hv
  obtain ⟨g2, o2, e2, _, hc⟩ := al.2.2.1 (by omega)
  cases e2
  have := hc i hi
  rwa [Nat.zero_add] at this
def Abs (Q : Nat → List Nat) (n : Nat) : Prop := ∀ z, z < n → z ∈ Q z ∧ (Q z).Nodup ∧ ∀ y ∈ Q z, y < n ∧ Q y = Q z
theorem SQ.ab {w : World} {b s n : Nat} {Q : Nat → List Nat} {U : Nat → Int} (h : SQ w b s n Q U) : Abs Q n := fun z hz => h.abs hz
theorem rev_x {Q : Nat → List Nat} {x n : Nat} (h : Abs Q n) (hx : x < n) : revQ Q x x = (Q x).reverse := if_pos (h x hx).1
theorem rev_back {Q : Nat → List Nat} {x f n : Nat} (h : Abs Q n) (hx : x < n) (hf : f ∈ Q x) (z : Nat) : revQ (revQ Q x) f z = Q z := by
  have e : revQ Q x f = (Q x).reverse := if_pos hf
  show (if z ∈ revQ Q x f then (revQ Q x f).reverse else revQ Q x z) = Q z
  rw [e, List.reverse_reverse]
  by_cases hz : z ∈ Q x
  · rw [if_pos (List.mem_reverse.2 hz)]; exact ((h x hx).2.2 z hz).2.symm
  · rw [if_neg (fun e => hz (List.mem_reverse.1 e))]; exact if_neg hz
theorem off_sym {Q : Nat → List Nat} {x y n : Nat} (h : Abs Q n) (hy : y < n) (hxy : y ∉ Q x) : x ∉ Q y := fun e => hxy (by rw [((h y hy).2.2 x e).2]; exact (h y hy).1)
theorem turn_two {Q : Nat → List Nat} {x y n : Nat} (h : Abs Q n) (hx : x < n) (hy : y < n) (hxy : y ∉ Q x) :
    x ∉ revQ (revQ Q x) y y ∧ revQ (joinQ Q x y) y x = (Q y).reverse ++ (Q x).reverse ∧ joinQ (revQ (revQ Q x) y) y x y = (Q y).reverse ++ (Q x).reverse := by
  have hyx := off_sym h hy hxy
  have e1 : revQ Q x y = Q y := if_neg hxy
  have e2 : revQ Q x x = (Q x).reverse := rev_x h hx
  have e3 : revQ (revQ Q x) y y = (Q y).reverse := by
    show (if y ∈ revQ Q x y then (revQ Q x y).reverse else _) = _
    rw [e1, if_pos (h y hy).1]
  have e4 : revQ (revQ Q x) y x = (Q x).reverse := by
    show (if x ∈ revQ Q x y then (revQ Q x y).reverse else revQ Q x x) = _
    rw [e1, if_neg hyx, e2]
  refine ⟨by rw [e3]; exact fun e => hyx (List.mem_reverse.1 e), ?_, ?_⟩
  · have e5 : joinQ Q x y y = Q x ++ Q y := if_pos (Or.inr (h y hy).1)
    show (if x ∈ joinQ Q x y y then (joinQ Q x y y).reverse else _) = _
    rw [e5, if_pos (List.mem_append_left _ (h x hx).1), List.reverse_append]
  · show (if y ∈ revQ (revQ Q x) y y ∨ _ then revQ (revQ Q x) y y ++ revQ (revQ Q x) y x else _) = _
    rw [e3, e4, if_pos (Or.inl (List.mem_reverse.2 (h y hy).1))]
theorem rev_get {l : List Nat} {k : Nat} (hk : k < l.length) : l.reverse.getD (l.length - 1 - k) 0 = l.getD k 0 := by
  rw [List.getD_eq_getElem?_getD, List.getD_eq_getElem?_getD, List.getElem?_reverse (by omega)]
  congr 2
  omega
set_option maxRecDepth 100000 in
set_option maxHeartbeats 2500000 in
theorem turns_walk (n c : Nat) (A : Option Addr) (z : Nat → Nat → Int) (xh yh : Int) (w : World) (ha : ArgS [.u8, .u8, .u8, .i64] w A n c z) (hw : (Lit.int .u8 xh).wf = true) (hw2 : (Lit.int .u8 yh).wf = true) :
    Calls Try.prog 6 #[.slice A n c, .int .u8 xh, .int .u8 yh] w fun e w' => e = .returned (.bool true) ∧ Below w.heap.size w w' := by
  have x0 := played_ok n c A z w ha
  have hwb := wf_u8 hw
  have hwb2 := wf_u8 hw2
  obtain ⟨x, hx⟩ : ∃ x : Nat, (x : Int) = xh % 40 := ⟨(xh % 40).toNat, by omega⟩
  obtain ⟨y, hy⟩ : ∃ y : Nat, (y : Int) = yh % 40 := ⟨(yh % 40).toNat, by omega⟩
  have hx40 : x < 40 := by omega
  have hy40 : y < 40 := by omega
  have m1 : xh % 40 = (x : Int) := hx.symm
  have m2 : xh.tmod 40 = (x : Int) := by rw [Int.tmod_eq_emod_of_nonneg (by omega)]; exact hx.symm
  have m3 : yh % 40 = (y : Int) := hy.symm
  have m4 : yh.tmod 40 = (y : Int) := by rw [Int.tmod_eq_emod_of_nonneg (by omega)]; exact hy.symm
  clear hx hy
  go_enter Try.func6, Try.ntmps6
  go_wp2_with fail
  refine x0.mono ?_
  rintro e w1 ⟨b, s, rfl, h, hb, hs, q⟩
  clear x0
  generalize playP z (min n 200) = P at *
  obtain ⟨Q, U⟩ := P
  have h : SQ w1 b s 40 Q U := h
  have hab := h.ab
  have hl := h.len hx40
  have hly := h.len hy40
  have hp : 0 < (Q x).length := List.length_pos_of_mem (hab x hx40).1
  have hsB := h.lt.2.1
  have x1 := list_ok b s 40 _ _ x w1 h hx40
  have HAB := Lib.hid hab
  go_wp2_with fail
  refine x1.mono ?_
  rintro e w2 ⟨v2, rfl, r, h, hT⟩
  have q := below_step q hs hT
  clear x1
  have hg2 := q.size
  have hsz := hT.size
  have x1 := list_ok b s 40 _ _ y w2 h hy40
  go_wp2_with fail
  refine x1.mono ?_
  rintro e w3 ⟨v3, rfl, ro, h, hT⟩
  have q := below_step q hs hT
  have r := r.turns hT hsB
  obtain ⟨g, cc, rfl⟩ := r.form hl.2 hp
  clear x1
  obtain ⟨L, hL⟩ : ∃ L, (Q x).length = L := ⟨_, rfl⟩
  have hL0 : ¬ (L : Int) = 0 := by omega
  have hL1 : ((L : Int) == 0) = false := by rw [beq_eq_false_iff_ne]; omega
  rw [hL] at r hp ⊢
  have x1 := reverse_ok b s 40 _ _ x w3 h hx40
  go_wp2_with fail
  (with_reducible refine x1.mono ?_)
  rintro e w4 ⟨rfl, h, hT⟩
  have q := below_step q hs hT
  have r := r.turns hT hsB
  have ro := ro.turns hT (by omega)
  clear x1
  have x1 := list_ok b s 40 _ _ x w4 h hx40
  have hsw4 : s < w4.heap.size := h.lt.2.1
  have hsw2 : s < w2.heap.size := by omega
  rw [rev_x hab hx40] at x1
  go_wp2_with fail
  (with_reducible refine x1.mono ?_)
  rintro e w5 ⟨v5, rfl, rn, h, hT⟩
  have q := below_step q hs hT
  have r := r.turns hT hsB
  have ro := ro.turns hT (by omega)
  have hg5 := q.size
  clear x1
  obtain ⟨gn, cn, rfl⟩ := rn.form (fun y hy => hl.2 y (List.mem_reverse.1 hy)) (by rw [List.length_reverse]; omega)
  rw [List.length_reverse, hL] at rn ⊢
  go_wp2_with fail
  have hlr : ∀ y ∈ (Q x).reverse, y ≤ 1000000 := fun y hy => hl.2 y (List.mem_reverse.1 hy)
  have HL := Lib.hid hL
  have HLR := Lib.hid hlr
  have HLX := Lib.hid hl
  have HLY := Lib.hid hly
  have hs1 : w.heap.size ≤ w5.heap.size := q.size
  clear hL hlr hl hly hab hT
  go_loopw [13] (fun vk wr => ∃ k : Nat, vk = .int .i64 k ∧ k ≤ L ∧ SQ wr b s 40 (revQ Q x) U ∧ RowL wr w1.heap.size (.slice (some ⟨g, 0, none⟩) L cc) (Q x) ∧ RowL wr w2.heap.size v3 (Q y) ∧ RowL wr w4.heap.size (.slice (some ⟨gn, 0, none⟩) L cn) (Q x).reverse ∧ Below w.heap.size w wr) (fun vk _ => L - (intOf vk).toNat)
  case atStart => exact ⟨0, rfl, Nat.zero_le _, h, r, ro, rn, q⟩
  case round =>
    clear h r ro rn q
    obtain ⟨k, rfl, hk, h, r, ro, rn, q⟩ := hrel
    by_cases hlt : k < L
    · have hkL : (k : Int) < (L : Int) := by omega
      obtain ⟨L1, hL1'⟩ : ∃ L1, L1 + 1 = L := ⟨L - 1, by omega⟩
      obtain ⟨j, hj⟩ : ∃ j, j + k = L1 := ⟨L1 - k, by omega⟩
      have e1 : (L : Int) - 1 = (L1 : Int) := by omega
      have e2 : (L1 : Int) - (k : Int) = (j : Int) := by omega
      have hjL : (j : Int) < (L : Int) := by omega
      have hL40 : L ≤ 40 := by have := HLX.out.1; rw [HL.out] at this; exact this
      have e1w : IntKind.i64.wrap ((L : Int) - 1) = (L1 : Int) := by rw [IntKind.wrap_i64]; omega
      have e2w : IntKind.i64.wrap ((L1 : Int) - (k : Int)) = (j : Int) := by rw [IntKind.wrap_i64]; omega
      have wL1 : IntKind.i64.wrap (L1 : Int) = (L1 : Int) := by rw [IntKind.wrap_i64]; omega
      have wj : IntKind.i64.wrap (j : Int) = (j : Int) := by rw [IntKind.wrap_i64]; omega
      have e3w : IntKind.i64.wrap ((L : Int) - 1 - (k : Int)) = (j : Int) := by rw [IntKind.wrap_i64]; omega
      have hkl : k < (Q x).length := by rw [HL.out]; exact hlt
      obtain ⟨f, hf⟩ : ∃ f, (Q x)[k]? = some f := ⟨_, List.getElem?_eq_getElem hkl⟩
      have hfm : f ∈ Q x := List.mem_of_getElem? hf
      have hf40 : f < 40 := ((HAB.out x hx40).2.2 f hfm).1
      have hfd : (Q x).getD k 0 = f := by rw [List.getD_eq_getElem?_getD, hf]; rfl
      have hjj : (Q x).length - 1 - k = j := by rw [HL.out]; omega
      have hrr := rev_get hkl
      rw [hjj] at hrr
      have FC := Lib.hid (show ∀ w6, RowL w6 w1.heap.size (.slice (some ⟨g, 0, none⟩) L cc) (Q x) → RowL w6 w4.heap.size (.slice (some ⟨gn, 0, none⟩) L cn) (Q x).reverse → w6.cell? ⟨gn, j, none⟩ = some (.int .i64 (f : Int)) ∧ w6.cell? ⟨g, k, none⟩ = some (.int .i64 (f : Int)) from fun w6 r rn => by
        have c0 := r.cell HLX.out.2 (i := k) hkl
        have c1 := rn.cell HLR.out (i := j) (by rw [List.length_reverse, HL.out]; omega)
        rw [hrr] at c1
        rw [hfd] at c0 c1
        exact ⟨c1, c0⟩)
      obtain ⟨c1, c0⟩ := FC.out wr r rn
      have FP := Lib.hid (show ∀ k5, IsPos (revQ Q x) f k5 → k5 = j from fun k5 h5 => by
        unfold IsPos at h5
        rw [show revQ Q x f = (Q x).reverse from if_pos hfm] at h5
        refine nodup_idx (l := (Q x).reverse) ((List.reverse_perm _).nodup_iff.2 (HAB.out x hx40).2.1) h5 ?_
        rw [List.getElem?_reverse (by rw [HL.out]; omega)]
        rw [show (Q x).length - 1 - j = k by rw [HL.out]; omega]
        exact hf)
      have hD : SQ wr.drew b s 40 (revQ Q x) U := h
      have x1 := pos_ok b s 40 _ _ f wr.drew hD hf40
      have qd := q.drew
      have rd : RowL wr.drew w1.heap.size (.slice (some ⟨g, 0, none⟩) L cc) (Q x) := r
      have rod : RowL wr.drew w2.heap.size v3 (Q y) := ro
      have rnd : RowL wr.drew w4.heap.size (.slice (some ⟨gn, 0, none⟩) L cn) (Q x).reverse := rn
      have hdw : wr.drew.heap.size = wr.heap.size := rfl
      clear hf hfm hfd hjj hrr hj hL1'
      have hj0 : (0 : Int) ≤ (j : Int) := by omega
      have hk0 : (0 : Int) ≤ (k : Int) := by omega
      have c0d : wr.drew.cell? ⟨g, k, none⟩ = some (.int .i64 (f : Int)) := c0
      have c1d : wr.drew.cell? ⟨gn, j, none⟩ = some (.int .i64 (f : Int)) := c1
      go_upto_region 14 with fail
      go_region_held3 (fun w' => w'.cell? ⟨gn, j, none⟩ = some (.int .i64 (f : Int)) ∧ w'.cell? ⟨g, k, none⟩ = some (.int .i64 (f : Int))) (exact ⟨by assumption, by assumption⟩) (first
        | (go_at_call 15; (with_reducible refine x1.mono ?_); rintro e w6 ⟨k5, rfl, hk5, h6, hT6⟩; obtain rfl := FP.out k5 hk5; have q6 := below_step qd hs hT6; have r6 := rd.turns hT6 hsB; have ro6 := rod.turns hT6 hsw2; have rn6 := rnd.turns hT6 hsw4; obtain ⟨c16, c06⟩ := FC.out w6 r6 rn6; clear hk5))
      go_wp2_with fail
      go_roundw
      case rel => exact ⟨k + 1, by simp, by omega, h6, r6, ro6, rn6, q6⟩
      case measure => simp [intOf]; omega
    · have hkL : ¬ (k : Int) < (L : Int) := by omega
      obtain ⟨f, hf⟩ : ∃ f, (Q x).getD 0 0 = f := ⟨_, rfl⟩
      have hp2 : 0 < (Q x).length := by rw [HL.out]; exact hp
      have hfm : f ∈ Q x := by
        rw [← hf, List.getD_eq_getElem?_getD, List.getElem?_eq_getElem hp2]
        exact List.getElem_mem _
      have hf40 : f < 40 := ((HAB.out x hx40).2.2 f hfm).1
      have c0 := r.cell HLX.out.2 (i := 0) hp2
      rw [hf] at c0
      have hLp : (0 : Int) < (L : Int) := by omega
      have x1 := reverse_ok b s 40 _ _ f wr h hf40
      have HB := Lib.hid (fun z => rev_back HAB.out hx40 hfm z)
      clear rn h hf hfm
      go_wp2_with fail
      (with_reducible refine x1.mono ?_)
      rintro e w6 ⟨rfl, h, hT⟩
      have q := below_step q hs hT
      have r := r.turns hT hsB
      have ro := ro.turns hT (by omega)
      have h := h.congr (fun z _ => HB.out z) (fun _ _ => rfl)
      clear x1 c0
      have x1 := list_ok b s 40 _ _ x w6 h hx40
      go_wp2_with fail
      (with_reducible refine x1.mono ?_)
      rintro e w7 ⟨v7, rfl, r7, h, hT⟩
      have q := below_step q hs hT
      have r := r.turns hT hsB
      have ro := ro.turns hT (by omega)
      clear x1
      obtain ⟨A1, A2, c1, c2, rfl, hv2, x1⟩ := rows_same r7 r HLX.out.2 (by have := HLX.out.1; omega)
      rw [HL.out] at hv2 x1 ⊢
      cases hv2
      go_wp2_with fail
      (with_reducible refine x1.mono ?_)
      rintro e w8 ⟨rfl, b8⟩
      have q := below_end q q.size b8
      have ro := ro.below b8
      have h := h.below b8
      clear x1 r r7
      have x1 := same_ok b s 40 _ _ x y w8 h hx40 hy40
      by_cases hxy : y ∈ Q x
      · rw [show sameB Q x y = true from decide_eq_true hxy] at x1
        go_wp2_with fail
        (with_reducible refine x1.mono ?_)
        rintro e w9 ⟨rfl, h, hT⟩
        have q := below_step q hs hT
        clear x1
        have x1 := works_ok w9
        go_wp2_with fail
        (with_reducible refine x1.mono ?_)
        rintro e wa ⟨rfl, ba⟩
        have q := below_end q q.size ba
        go_wp2_with fail
        go_ret
        exact ⟨rfl, q⟩
      · rw [show sameB Q x y = false from decide_eq_false hxy] at x1
        obtain ⟨tx, t1, t2⟩ := turn_two HAB.out hx40 hy40 hxy
        have HT1 := Lib.hid t1
        have HT2 := Lib.hid t2
        clear t1 t2
        have hsz8 := q.size
        go_wp2_with fail
        (with_reducible refine x1.mono ?_)
        rintro e w9 ⟨rfl, h, hT⟩
        have q := below_step q hs hT
        have ro := ro.turns hT (by omega)
        clear x1
        have x1 := copy_ok b s 40 _ _ w9 h
        have hlt9 := h.lt
        go_wp2_with fail
        (with_reducible refine x1.mono ?_)
        rintro e wa ⟨b', s', rfl, h', hb', hs', ba⟩
        have q := below_end q q.size ba
        have ro := ro.below ba
        have h := h.below ba
        have hlta := h'.lt
        clear x1
        have x1 := list_ok b s 40 _ _ y wa h hy40
        go_wp2_with fail
        (with_reducible refine x1.mono ?_)
        rintro e wb ⟨vb, rfl, rb, h, hT⟩
        have q := below_step q hs hT
        have ro := ro.turns hT (by omega)
        have h' := h'.turns hT (by omega) (by omega)
        clear x1
        obtain ⟨A1, A2, c1, c2, rfl, rfl, x1⟩ := rows_same rb ro HLY.out.2 (by have := HLY.out.1; omega)
        clear rb ro
        go_wp2_with fail
        (with_reducible refine x1.mono ?_)
        rintro e wc ⟨rfl, bc⟩
        have q := below_end q q.size bc
        have h := h.below bc
        have h' := h'.below bc
        clear x1
        have x1 := join_ok b s 40 _ _ x y wc h hx40 hy40 hxy
        go_wp2_with fail
        (with_reducible refine x1.mono ?_)
        rintro e wd ⟨rfl, h, hT⟩
        have q := below_step q hs hT
        have h' := h'.turns hT (by omega) (by omega)
        clear x1
        have x1 := reverse_ok b s 40 _ _ y wd h hy40
        go_wp2_with fail
        (with_reducible refine x1.mono ?_)
        rintro e we ⟨rfl, h, hT⟩
        have q := below_step q hs hT
        have h' := h'.turns hT (by omega) (by omega)
        clear x1
        have x1 := reverse_ok b' s' 40 _ _ x we h' hx40
        have hs2 : w.heap.size ≤ s' := by omega
        go_wp2_with fail
        (with_reducible refine x1.mono ?_)
        rintro e wf ⟨rfl, h', hT⟩
        have q := below_step q hs2 hT
        have h := h.turns hT (by omega) (by omega)
        clear x1
        have x1 := reverse_ok b' s' 40 _ _ y wf h' hy40
        go_wp2_with fail
        (with_reducible refine x1.mono ?_)
        rintro e wg ⟨rfl, h', hT⟩
        have q := below_step q hs2 hT
        have h := h.turns hT (by omega) (by omega)
        clear x1
        have x1 := join_ok b' s' 40 _ _ y x wg h' hy40 hx40 tx
        go_wp2_with fail
        (with_reducible refine x1.mono ?_)
        rintro e wh ⟨rfl, h', hT⟩
        have q := below_step q hs2 hT
        have h := h.turns hT (by omega) (by omega)
        clear x1
        have x1 := list_ok b s 40 _ _ x wh h hx40
        have hlh := h.lt
        have hs3 : s' < wh.heap.size := h'.lt.2.1
        go_wp2_with fail
        (with_reducible refine x1.mono ?_)
        rintro e wi ⟨vi, rfl, ri, h, hT⟩
        have q := below_step q hs hT
        have h' := h'.turns hT (by omega) (by omega)
        have hlh' := h'.lt
        have hszi := hT.size
        have hln := h.len hx40
        clear x1
        have x1 := list_ok b' s' 40 _ _ y wi h' hy40
        go_wp2_with fail
        (with_reducible refine x1.mono ?_)
        rintro e wj ⟨vj, rfl, rj, h', hT⟩
        have q := below_step q hs2 hT
        have ri := ri.turns hT hs3
        clear x1
        rw [HT1.out] at ri hln
        rw [HT2.out] at rj
        obtain ⟨A1, A2, c1, c2, rfl, rfl, x1⟩ := rows_same ri rj hln.2 (by have := hln.1; omega)
        clear ri rj
        simp only [List.length_append, List.length_reverse] at x1
        go_wp2_with fail
        (with_reducible refine x1.mono ?_)
        rintro e wk ⟨rfl, bk⟩
        have q := below_end q q.size bk
        clear x1
        have x1 := works_ok wk
        go_wp2_with fail
        (with_reducible refine x1.mono ?_)
        rintro e wl ⟨rfl, bl⟩
        have q := below_end q q.size bl
        go_wp2_with fail
        go_ret
        exact ⟨rfl, q⟩
end Go.Proofs.Ytgichkjomhnehaa
