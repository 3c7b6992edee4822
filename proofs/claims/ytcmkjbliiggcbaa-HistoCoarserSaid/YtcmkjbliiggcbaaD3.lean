/-
  The document's histograms: Coarse.
-/
import Derived.Test.YtcmkjbliiggcbaaD2
import Derived.Test.YtcmkjbliiggcbaaR1
import Derived.Test.YtcmkjbliiggcbaaL5
import Derived.Deep.RegionLaw
set_option linter.unusedVariables false
set_option linter.unusedSimpArgs false
namespace Go.Proofs.Ytcmkjbliiggcbaa
open Go.RowKit Go.Shelf

/-- append(s, x...), s nil or the call's own, x integers that can be read: as one step of a region that draws -/
theorem step_append_ints {ops : Array Oper} {o : Oper} {a : Act} {w : World} {K : Act → World → Prop} {Q : Exit → Act → World → Prop} {E : Prop} (hg : o.guard = none) (s x : Operand) (ho : o.op = .call { callee := .builtin .append, args := #[s, x], argTypes := #[22, 22] })
    (base : Nat) (v : Value) (n : Nat) (y : Nat → Int) (hs : a.eval s = v) (hown : w.ownsRow base 2 1 v n (vals y n)) (ad : Addr) (m c : Nat) (z : Nat → Int) (hx : a.eval x = .slice (some ad) m c) (hz : ArgI .i64 w (some ad) m c z)
    (h63 : n + m ≤ 1000000) (hbase : base ≤ w.heap.size)
    (h : ∀ v' w', w'.ownsRow base 2 1 v' (n + m) (vals (cat y n z) (n + m)) → w.grownBy w' v.ownBlock → K (a.put o.dst v') w') :
    if Region.wanted o (yielded ops a.tmps) = true then Oper.wp Try.prog o a w K Q else E := by
  have hw : Region.wanted o (yielded ops a.tmps) = true := by simp [Region.wanted, hg]
  rw [if_pos hw]
  obtain ⟨i0, hi, hz0, hz1, hz2⟩ := info_parts info2
  refine wp_append_own w s x 22 ho base 2 i0 (.int .i64 0) 1 8 Try.underlying22 hi hz0 hz1 hz2 rfl (by decide) v n (vals y n) hs hown ad m c (vals z m) hx (by rw [vals_len, Nat.mul_one]) ?_ (vals_one z m) (by simp only [maxLen]; omega) (by omega) hbase ?_
  · intro j u hu
    obtain ⟨hj, rfl⟩ := vals_some hu
    obtain ⟨g, o', e, hg, hc⟩ := hz.2.2.1 (by omega)
    cases e
    rw [Addr.add_lit]
    exact hc j hj
  · intro v' w' h1 h2 _
    rw [vals_cat] at h1
    exact h v' w' h1 h2
/-- a row of one new number -/
theorem argI_one (w : World) (x : Int) (hx : Fits x) : ArgI .i64 (w.alloc (.cells #[.int .i64 x] 2)) (some ⟨w.heap.size, 0, none⟩) 1 1 (fun _ => x) :=
  argI_row (Blk.new w 2 #[.int .i64 x]) (by decide) (fun i hi => by obtain rfl : i = 0 := by omega
                                                                    rfl) (fun i hi => hx)
theorem own_below {w w' : World} {base n : Nat} {v : Value} {z : Nat → Int} (h : w.ownsRow base 2 1 v n (vals z n)) (hb : Below w.heap.size w w') : w'.ownsRow base 2 1 v n (vals z n) := by
  refine ⟨h.1, h.2.imp id ?_⟩
  rintro ⟨g, cap, cur, hv, hg, hh, r⟩
  exact ⟨g, cap, cur, hv, hg, (hb.block g (Blk.lt (w := w) (t := 2) (cs := cur) hh)).trans hh, r⟩
theorem own_far {w : World} {base n : Nat} {v : Value} {z : Nat → Int} (h : w.ownsRow base 2 1 v n (vals z n)) {p : Addr} (hp : ∀ g, v.ownBlock = some g → g ≠ p.block) (u : Value) : (w.setCell p u).ownsRow base 2 1 v n (vals z n) := by
  refine ⟨h.1, h.2.imp id ?_⟩
  rintro ⟨g, cap, cur, hv, hg, hh, r⟩
  exact ⟨g, cap, cur, hv, hg, (Below.heap_setCell w p u g (hp g (by rw [hv]; rfl))).trans hh, r⟩
theorem own_base {w : World} {base n : Nat} {v : Value} {z : Nat → Int} (h : w.ownsRow base 2 1 v n (vals z n)) : ∀ k, v.ownBlock = some k → base ≤ k := by
  intro k hk
  rcases h.2 with ⟨h0, _⟩ | ⟨g, cap, cur, hv, hg, _⟩
  · rw [h0] at hk; cases hk
  · rw [hv] at hk; cases hk; exact hg
theorem own_set {w : World} {base n g cap : Nat} {z : Nat → Int} (h : w.ownsRow base 2 1 (.slice (some ⟨g, 0, none⟩) n cap) n (vals z n)) {i : Nat} (hi : i < n) (v : Int) :
    (w.setCell ⟨g, i, none⟩ (.int .i64 v)).ownsRow base 2 1 (.slice (some ⟨g, 0, none⟩) n cap) n (vals (fun j => if j = i then v else z j) n) := by
  refine ⟨by rw [vals_len, Nat.mul_one], Or.inr ?_⟩
  rcases h.2 with ⟨h0, _⟩ | ⟨g', cap', cur, hv, hg, hh, hc, hm, hs, ht⟩
  · cases h0
  · cases hv
    refine ⟨g, cap, cur.setIfInBounds i (.int .i64 v), rfl, hg, Blk.set_ (w := w) (t := 2) hh i _, hc, hm, by simpa using hs, ?_⟩
    apply List.ext_getElem?
    intro j
    have hj := congrArg (fun l => l[j]?) ht
    simp only [List.getElem?_take, Nat.mul_one] at hj ⊢
    rcases Nat.lt_or_ge j n with hlt | hge
    · rw [if_pos hlt] at hj ⊢
      rw [vals_get hlt] at hj ⊢
      rw [Array.toList_setIfInBounds, List.getElem?_set]
      by_cases e : i = j
      · subst e
        have hlen := (List.getElem?_eq_some_iff.1 hj).1
        rw [if_pos rfl, if_pos (by simpa using hlen)]
        simp
      · rw [if_neg e, hj]
        show _ = some (Value.int .i64 (if j = i then v else z j))
        rw [if_neg (Ne.symm e)]
    · rw [if_neg (by omega), List.getElem?_eq_none (by rw [vals_len]; exact hge)]
theorem turns_below {S : Nat → Prop} {w w' w'' : World} (h : Turns S w w') (k : Below w.heap.size w' w'') : Turns S w w'' :=
  ⟨k.os.trans h.os, k.tape.trans h.tape, k.output.trans h.output, Nat.le_trans h.size k.size, fun i hi hn => (k.block i hi).trans (h.block i hi hn)⟩
/-- how many numbers are left of the first i without number b -/
def cnt (b i : Nat) : Nat := if i ≤ b then i else i - 1
theorem cnt_in {b i : Nat} (h : i ≤ b) : cnt b i = i := if_pos h
theorem cnt_out {b i : Nat} (h : b < i) : cnt b i + 1 = i := by unfold cnt; rw [if_neg (by omega)]; omega
section
variable {w : World} {p n m : Nat} {B C : Nat → Int} {T : Int} {A : Option Addr} {cb s cs : Nat}
theorem rcoarse_none (w : World) (b : Int) : Calls Try.prog 30 #[.pointer none, .int .i64 b] w fun e w' => e = .returned (.tuple #[.pointer none, .int .i64 1]) ∧ w = w' := by
  have hv := rvalid_no w
  go_enter Try.func30, Try.ntmps30
  go_wp2_with (go_at_call 36; refine hv.mono ?_; rintro e w' ⟨rfl, rfl⟩)
  go_ret2
  exact ⟨rfl, rfl⟩
theorem rcoarse_range (h : RHist w p n B C A cb s cs) (b : Int) (hb : b < 0 ∨ (n : Int) ≤ b) :
    Calls Try.prog 30 #[.pointer (some ⟨p, 0, none⟩), .int .i64 b] w fun e w' => e = .returned (.tuple #[.pointer none, .int .i64 3]) ∧ w = w' := by
  have hv := rvalid_ok h
  have hle := h.le
  obtain ⟨c0, c1, c2⟩ := h.cells
  rcases hb with hb | hb
  · go_enter Try.func30, Try.ntmps30
    go_wp2_with (go_at_call 36; refine hv.mono ?_; rintro e w' ⟨rfl, rfl⟩)
    go_ret2
    exact ⟨rfl, rfl⟩
  · have hb0 : ¬ b < 0 := by omega
    go_enter Try.func30, Try.ntmps30
    go_wp2_with (go_at_call 36; refine hv.mono ?_; rintro e w' ⟨rfl, rfl⟩)
    go_ret2
    exact ⟨rfl, rfl⟩
/-- the counts so far -/
def cf (C : Nat → Int) (b i : Nat) : Nat → Int := if i ≤ b + 1 then C else fold C b
/-- what the document's Coarse returns -/
def RCoarseOk (w : World) (m : Nat) (B C : Nat → Int) (b : Nat) (e : Ending) (w' : World) : Prop :=
  ∃ p A cb s cs, e = .returned (.tuple #[.pointer (some ⟨p, 0, none⟩), .int .i64 0]) ∧ RHist w' p m (del B b) (fold C b) A cb s cs ∧ Below w.heap.size w w'
set_option maxRecDepth 100000 in
set_option maxHeartbeats 4000000 in
theorem rcoarse_ok (h : RHist w p (m + 1) B C A cb s cs) (hg : Good C (m + 1) T) (b : Nat) (hb : b < m + 1) :
    Calls Try.prog 30 #[.pointer (some ⟨p, 0, none⟩), .int .i64 b] w fun e w' => RCoarseOk w m B C b e w' := by
  have hv := rvalid_ok h
  have hle := h.le
  have hB : ∀ j, j < m + 1 → Fits (B j) := fun j hj => wf_i64 (h.arg.2.2.2 j hj)
  have HB := Lib.hid hB
  have HG := Lib.hid hg
  clear hB
  have hb0 : ¬ (b : Int) < 0 := by omega
  have hbn : (b : Int) < (m : Int) + 1 := by omega
  obtain ⟨c0, c1, c2⟩ := h.cells
  have kb := Blk.new w 72 #[.bool true, .slice none 0 0, .slice none 0 0]
  have q0 := below_new1 w (.cells #[.bool true, .slice none 0 0, .slice none 0 0] 72)
  have h0 := h.below q0
  have hz0 : (w.alloc (.cells #[.bool true, .slice none 0 0, .slice none 0 0] 72)).heap.size = w.heap.size + 1 := by simp
  go_enter Try.func30, Try.ntmps30
  go_wp2_with fail
  refine hv.mono ?_
  rintro e w' ⟨rfl, rfl⟩
  go_upto_region 6 with fail
  generalize w.alloc (.cells #[.bool true, .slice none 0 0, .slice none 0 0] 72) = W0 at *
  clear c0 c1 c2 hg hv
  go_wp2_with fail
  go_loopw [7] (fun vi wr => ∃ (i : Nat) (A1 : Option Addr) (d1 : Nat), vi = .int .i64 i ∧ i ≤ m + 1 ∧ Blk wr w.heap.size 72 #[.bool true, .slice A1 (cnt b i) d1, .slice none 0 0] ∧ wr.ownsRow (w.heap.size + 1) 2 1 (.slice A1 (cnt b i) d1) (cnt b i) (vals (del B b) (cnt b i)) ∧ Below w.heap.size w wr) (fun vi _ => m + 1 - (intOf vi).toNat)
  case atStart => exact ⟨0, none, 0, rfl, Nat.zero_le _, by rw [cnt_in (Nat.zero_le b)]; exact kb, by rw [cnt_in (Nat.zero_le b)]; exact World.ownsRow_nil _ _ _ _, q0⟩
  case round =>
    clear kb h0 q0
    obtain ⟨i, A1, d1, rfl, hi, kb, ho, q⟩ := hrel
    by_cases hlt : i < m + 1
    · have hin : (i : Int) < (m : Int) + 1 := by omega
      have hh := h.below q
      have hz := q.size
      by_cases hib : i = b
      · subst hib
        have HC := Lib.hid (show cnt i (i + 1) = cnt i i by have h1 := cnt_in (b := i) (i := i) (by omega); have h2 := cnt_out (b := i) (i := i + 1) (by omega); omega)
        obtain ⟨c0, c1, c2⟩ := hh.cells
        go_wp2_with fail
        go_roundw
        case rel => exact ⟨i + 1, A1, d1, by simp, by omega, by rw [HC.out]; exact kb, by rw [HC.out]; exact ho, q⟩
        case measure => simp [intOf]; omega
      · have hb1 : ((i : Int) == (b : Int)) = false := by simp; omega
        have hb2 : ((i : Int) != (b : Int)) = true := by simp; omega
        have hb3 : ¬ (i : Int) = (b : Int) := by omega
        have hb4 : ¬ (b : Int) = (i : Int) := by omega
        obtain ⟨k, hk⟩ : ∃ k, cnt b i = k := ⟨_, rfl⟩
        have hkl : k ≤ m := by
          rcases Nat.lt_or_ge b i with h1 | h1
          · have := cnt_out h1; omega
          · have := cnt_in h1; omega
        have hkb : k < b ∨ k + 1 ≤ m := by
          rcases Nat.lt_or_ge b i with h1 | h1
          · have := cnt_out h1; omega
          · have := cnt_in h1; omega
        have hk1 : cnt b (i + 1) = k + 1 := by
          rcases Nat.lt_or_ge b i with h1 | h1
          · have := cnt_out h1; have := cnt_out (b := b) (i := i + 1) (by omega); omega
          · have := cnt_in h1; have := cnt_in (b := b) (i := i + 1) (by omega); omega
        obtain ⟨g, o, rfl, hg, hc⟩ := hh.arg.2.2.1 (by omega)
        have hcB := hh.arg.1
        have ci := hc i hlt
        obtain ⟨x, hx⟩ : ∃ x, B i = x := ⟨_, rfl⟩
        rw [hx] at ci
        have hfx : Fits x := by rw [← hx]; exact HB.out i hlt
        have hcat : ∀ j, j < k + 1 → cat (del B b) k (fun _ => x) j = del B b j := fun j hj => by
          unfold cat
          split
          · rfl
          · obtain rfl : j = k := by omega
            show x = _
            rw [← hx]
            unfold del
            rcases Nat.lt_or_ge b i with h1 | h1
            · have := cnt_out h1; rw [if_neg (by omega)]; congr 1; omega
            · have := cnt_in h1; rw [if_pos (by omega)]; congr 1; omega
        have hdel : ∀ j, j < k + 1 → Fits (del B b j) := fun j hj => by
          unfold del; split
          · exact HB.out j (by omega)
          · exact HB.out (j + 1) (by omega)
        rw [hk] at kb ho
        have HK := Lib.hid hk1
        have HC := Lib.hid (And.intro hcat hdel)
        have hoA : (wr.alloc (.cells #[.int .i64 x] 2)).drew.ownsRow (w.heap.size + 1) 2 1 (.slice A1 k d1) k (vals (del B b) k) := own_below ho (below_new1 wr _).drew
        have hxA : ArgI .i64 (wr.alloc (.cells #[.int .i64 x] 2)).drew (some ⟨wr.heap.size, 0, none⟩) 1 1 (fun _ => x) := argI_one wr x hfx
        have HOB := Lib.hid (own_base ho)
        have kbA : Blk (wr.alloc (.cells #[.int .i64 x] 2)).drew w.heap.size 72 #[.bool true, .slice A1 k d1, .slice none 0 0] := kb.alloc _
        have qA : Below w.heap.size w (wr.alloc (.cells #[.int .i64 x] 2)).drew := (q.alloc (by omega) _).drew
        have hzA : w.heap.size + 1 ≤ (wr.alloc (.cells #[.int .i64 x] 2)).drew.heap.size := by simp; omega
        have hgw : w.heap.size < wr.heap.size := kb.lt
        have hhd := hh.below (Below.refl _ wr).drew
        clear hk hk1 hx hcat hdel hfx ho hc
        obtain ⟨c0, c1, c2⟩ := hhd.cells
        have k1 : wr.drew.cell? ⟨w.heap.size, 1, none⟩ = some (.slice A1 k d1) := kb.cell 1
        have k1A : (wr.alloc (.cells #[.int .i64 x] 2)).drew.cell? ⟨w.heap.size, 1, none⟩ = some (.slice A1 k d1) := kbA.cell 1
        have cid : wr.drew.cell? ⟨g, o + i, none⟩ = some (.int .i64 x) := ci
        obtain ⟨y0, y1, y2⟩ := hh.cells
        go_wp2_with fail
        go_region_law (refine step_append_ints rfl (.tmp 41) (.tmp 49) rfl (w.heap.size + 1) (.slice A1 k d1) k (del B b) (by simp [Act.eval, Act.put]) hoA ⟨wr.heap.size, 0, none⟩ 1 1 (fun _ => x) (by simp [Act.eval, Act.put]) hxA (by omega) hzA ?_; intro v' w3 hown hgrow; rw [vals_ext HC.out.1] at hown; have hb3 := (Below.refl (w.heap.size + 1) (wr.alloc (.cells #[.int .i64 x] 2)).drew).grown hgrow hzA HOB.out; have hob3 := Lib.hid (own_base hown); obtain ⟨A2, d2, rfl, hC2, _, hCg2⟩ := own_arg hown HC.out.2; have kb3 := kbA.below hb3 (by omega); have kz3 := kb3.frozen 1; have km3 := kb3.cell 1; simp at km3)
        all_goals
          have kbN : Blk (w3.setCell ⟨w.heap.size, 1, none⟩ (.slice A2 (k + 1) d2)) w.heap.size 72 #[.bool true, .slice A2 (k + 1) d2, .slice none 0 0] := kb3.set_ 1 _
          have hoN := own_far hown (p := ⟨w.heap.size, 1, none⟩) (fun g hg => by have := hob3.out g hg; show g ≠ w.heap.size; omega) (.slice A2 (k + 1) d2)
          have qN := (qA.trans (hb3.mono (by omega))).setCell (p := ⟨w.heap.size, 1, none⟩) (Nat.le_refl _) (.slice A2 (k + 1) d2)
          go_wp2_with fail
          go_roundw
          case rel => exact ⟨i + 1, A2, d2, by simp, by omega, by rw [HK.out]; exact kbN, by rw [HK.out]; exact hoN, qN⟩
          case measure => simp [intOf]; omega
    · have hcm : cnt b i = m := by have := cnt_out (b := b) (i := i) (by omega); omega
      have hin : ¬ (i : Int) < (m : Int) + 1 := by omega
      rw [hcm] at kb ho
      clear hcm
      have hdel : ∀ j, j < m → Fits (del B b j) := fun j hj => by
        unfold del; split
        · exact HB.out j (by omega)
        · exact HB.out (j + 1) (by omega)
      obtain ⟨A0, d0, e0, aB, aN, aG⟩ := own_arg ho hdel
      cases e0
      have AB := aB
      have hAl : 0 < m → ∀ g o, A1 = some ⟨g, o, none⟩ → g < wr.heap.size := fun hm g o e => by
        obtain ⟨g', o', e', hl, _⟩ := aB.2.2.1 hm
        rw [e] at e'; cases e'; exact hl
      have hgw : w.heap.size < wr.heap.size := kb.lt
      have HA := Lib.hid (And.intro aB (And.intro aN (And.intro aG hAl)))
      obtain ⟨w3, e3⟩ : ∃ w3 : World, w3 = wr := ⟨_, rfl⟩
      subst e3
      have hh := h.below q
      obtain ⟨c0, c1, c2⟩ := hh.cells
      clear hdel aB aN aG AB hAl ho hlt hi
      go_wp2_with fail
      clear c0 c1 c2 hh
      go_loopw [8] (fun vi wr => ∃ (i : Nat) (A2 : Option Addr) (d2 : Nat), vi = .int .i64 i ∧ i ≤ m + 1 + 1 ∧ Blk wr w.heap.size 72 #[.bool true, .slice A1 m d1, .slice A2 (cnt (b + 1) i) d2] ∧ wr.ownsRow w3.heap.size 2 1 (.slice A2 (cnt (b + 1) i) d2) (cnt (b + 1) i) (vals (cf C b i) (cnt (b + 1) i)) ∧ Turns (· = w.heap.size) w3 wr) (fun vi _ => m + 1 + 1 - (intOf vi).toNat)
      case atStart => exact ⟨0, none, 0, rfl, Nat.zero_le _, by rw [cnt_in (Nat.zero_le _)]; exact kb, by rw [cnt_in (Nat.zero_le _)]; exact World.ownsRow_nil _ _ _ _, Turns.refl _ _⟩
      case round =>
        clear kb
        obtain ⟨i, A2, d2, rfl, hi, kb, ho, ht⟩ := hrel
        have qq := below_turns q q.size ht (fun k hk => by show ¬ k = w.heap.size; omega)
        have hh := h.below qq
        have hz := qq.size
        have hz3 : w3.heap.size ≤ wr.heap.size := ht.size
        by_cases hlt : i < m + 1 + 1
        · have hin : (i : Int) < (m : Int) + 1 + 1 := by omega
          have hwb : IntKind.i64.wrap ((b : Int) + 1) = (b : Int) + 1 := wrap_i64 (by omega) (by omega)
          have hcap := hh.cap
          have hbig := hh.big
          have ci := hh.row.cell hlt
          obtain ⟨x, hx⟩ : ∃ x, C i = x := ⟨_, rfl⟩
          rw [hx] at ci
          have hfx : Fits x := by rw [← hx]; exact HG.out.fits i hlt
          by_cases hib : i = b + 1
          · have hcnt : cnt (b + 1) i = b + 1 := by rw [cnt_in (by omega)]; omega
            have hcnt2 : cnt (b + 1) (i + 1) = b + 1 := by have := cnt_out (b := b + 1) (i := i + 1) (by omega); omega
            rw [hcnt] at kb ho
            obtain ⟨y, hy⟩ : ∃ y, C b = y := ⟨_, rfl⟩
            have b0 := HG.out.at_ (i := b) (by omega)
            have b1 := HG.out.at_ (i := b + 1) (by omega)
            have bs : y + x ≤ T := by
              have h1 := tot_in (HG.out.fold hb) (b + 1) (by omega)
              have h2 := tot_in (HG.out.fold hb) b (by omega)
              have h3 : tot (fold C b) (b + 1) = tot (fold C b) b + fold C b b := rfl
              rw [fold_eq, hy, show C (b + 1) = x by rw [← hib]; exact hx] at h3
              omega
            rw [hy] at b0
            rw [← hib, hx] at b1
            have hTl := HG.out.le
            have hw : IntKind.i64.wrap (y + x) = y + x := wrap_i64 (by omega) (by omega)
            obtain ⟨g2, cap2, e2, hg2, hc2, hcx, hR⟩ := own_row2 ho (by omega)
            cases e2
            have cy := hR.cell (i := b) (by omega)
            rw [show cf C b i b = y by unfold cf; rw [if_pos (by omega), hy]] at cy
            have hext : ∀ j, j < b + 1 → (fun j => if j = b then y + x else cf C b i j) j = cf C b (i + 1) j := fun j hj => by
              unfold cf
              rw [if_pos (by omega), if_neg (by omega)]
              show (if j = b then y + x else C j) = _
              by_cases e : j = b
              · subst e; rw [if_pos rfl, fold_eq, hy, ← hib, hx]
              · rw [if_neg e, fold_lt (by omega)]
            have hoS := own_set ho (i := b) (by omega) (y + x)
            rw [vals_ext hext] at hoS
            have HK := Lib.hid hcnt2
            have HO : (wr.setCell ⟨g2, b, none⟩ (.int .i64 (y + x))).drew.ownsRow w3.heap.size 2 1 (.slice (some ⟨g2, 0, none⟩) (b + 1) d2) (b + 1) (vals (cf C b (i + 1)) (b + 1)) := hoS
            have hgP : w.heap.size ≠ g2 := by omega
            have kbS : Blk (wr.setCell ⟨g2, b, none⟩ (.int .i64 (y + x))).drew w.heap.size 72 #[.bool true, .slice A1 m d1, .slice (some ⟨g2, 0, none⟩) (b + 1) d2] := kb.far (p := ⟨g2, b, none⟩) hgP _
            have tS : Turns (· = w.heap.size) w3 (wr.setCell ⟨g2, b, none⟩ (.int .i64 (y + x))).drew := (ht.setCell (p := ⟨g2, b, none⟩) (.inl hg2) _).drew
            have hb1 : ((i : Int) == (b : Int) + 1) = true := by simp; omega
            have hbi : (i : Int) = (b : Int) + 1 := by omega
            have hb5 : (b : Int) < (b : Int) + 1 := by omega
            clear hoS hext hcnt hcnt2 hy hx hfx b0 b1 ho hib
            have k2 := kb.cell 2
            simp at k2
            have hhd := hh.below (Below.refl _ wr).drew
            have kd2 : wr.drew.cell? ⟨w.heap.size, 2, none⟩ = some (.slice (some ⟨g2, 0, none⟩) (b + 1) d2) := k2
            have cyd : wr.drew.cell? ⟨g2, b, none⟩ = some (.int .i64 y) := cy
            have cid : wr.drew.cell? ⟨s, i, none⟩ = some (.int .i64 x) := ci
            have czd : wr.drew.frozen? ⟨g2, b, none⟩ = false := hR.frozen b
            obtain ⟨y0, y1, y2⟩ := hh.cells
            obtain ⟨c0, c1, c2⟩ := hhd.cells
            have HBI := Lib.hid hbi
            clear hbi
            go_wp2_with fail
            go_region
            all_goals
              go_wp2_with fail
              go_roundw
              case rel => exact ⟨i + 1, some ⟨g2, 0, none⟩, d2, by simp, by omega, by rw [HK.out]; exact kbS, by rw [HK.out]; exact HO, tS⟩
              case measure => simp [intOf]; omega
          · have hb3 : ¬ (i : Int) = (b : Int) + 1 := by omega
            have hb4 : ¬ (b : Int) + 1 = (i : Int) := by omega
            have hb1 : ((i : Int) == (b : Int) + 1) = false := by simp; omega
            obtain ⟨k, hk⟩ : ∃ k, cnt (b + 1) i = k := ⟨_, rfl⟩
            have hki : (i ≤ b ∧ k = i) ∨ (b + 1 < i ∧ k + 1 = i) := by
              rcases Nat.lt_or_ge (b + 1) i with h1 | h1
              · have := cnt_out h1; omega
              · have := cnt_in h1; omega
            have hk1 : cnt (b + 1) (i + 1) = k + 1 := by
              rcases hki with ⟨h1, h2⟩ | ⟨h1, h2⟩
              · rw [cnt_in (by omega)]; omega
              · have := cnt_out (b := b + 1) (i := i + 1) (by omega); omega
            have hcf : cf C b (i + 1) = cf C b i := by
              unfold cf
              rcases hki with ⟨h1, h2⟩ | ⟨h1, h2⟩
              · rw [if_pos (by omega), if_pos (by omega)]
              · rw [if_neg (by omega), if_neg (by omega)]
            have hcat : ∀ j, j < k + 1 → cat (cf C b i) k (fun _ => x) j = cf C b i j := fun j hj => by
              unfold cat
              split
              · rfl
              · obtain rfl : j = k := by omega
                show x = _
                rw [← hx]
                unfold cf
                rcases hki with ⟨h1, h2⟩ | ⟨h1, h2⟩
                · rw [if_pos (by omega), h2]
                · rw [if_neg (by omega), fold_gt (by omega)]; congr 1; omega
            have hfit : ∀ j, j < k + 1 → Fits (cf C b i j) := fun j hj => by
              unfold cf
              split
              · exact HG.out.fits j (by omega)
              · exact (HG.out.fold hb).fits j (by omega)
            rw [hk] at kb ho
            rw [← hcf] at hcat hfit ho
            have HK := Lib.hid hk1
            have HC := Lib.hid (And.intro hcat hfit)
            have hkm : k ≤ m := by omega
            have hoA : (wr.alloc (.cells #[.int .i64 x] 2)).drew.ownsRow w3.heap.size 2 1 (.slice A2 k d2) k (vals (cf C b (i + 1)) k) := own_below ho (below_new1 wr _).drew
            have hxA : ArgI .i64 (wr.alloc (.cells #[.int .i64 x] 2)).drew (some ⟨wr.heap.size, 0, none⟩) 1 1 (fun _ => x) := argI_one wr x hfx
            have HOB := Lib.hid (own_base ho)
            have kbA : Blk (wr.alloc (.cells #[.int .i64 x] 2)).drew w.heap.size 72 #[.bool true, .slice A1 m d1, .slice A2 k d2] := kb.alloc _
            have tA : Turns (· = w.heap.size) w3 (wr.alloc (.cells #[.int .i64 x] 2)).drew := (ht.alloc _).drew
            have hzA : w3.heap.size ≤ (wr.alloc (.cells #[.int .i64 x] 2)).drew.heap.size := by simp; omega
            have hhd := hh.below (Below.refl _ wr).drew
            clear hk hk1 hx hcat hfit hfx ho hki hcf
            obtain ⟨c0, c1, c2⟩ := hhd.cells
            have k1 : wr.drew.cell? ⟨w.heap.size, 2, none⟩ = some (.slice A2 k d2) := kb.cell 2
            have k1A : (wr.alloc (.cells #[.int .i64 x] 2)).drew.cell? ⟨w.heap.size, 2, none⟩ = some (.slice A2 k d2) := kbA.cell 2
            have cid : wr.drew.cell? ⟨s, i, none⟩ = some (.int .i64 x) := ci
            obtain ⟨y0, y1, y2⟩ := hh.cells
            go_wp2_with fail
            go_region_law (refine step_append_ints rfl (.tmp 86) (.tmp 94) rfl w3.heap.size (.slice A2 k d2) k (cf C b (i + 1)) (by simp [Act.eval, Act.put]) hoA ⟨wr.heap.size, 0, none⟩ 1 1 (fun _ => x) (by simp [Act.eval, Act.put]) hxA (by omega) hzA ?_; intro v' w4 hown hgrow; rw [vals_ext HC.out.1] at hown; have hbb := (Below.refl w3.heap.size (wr.alloc (.cells #[.int .i64 x] 2)).drew).grown hgrow hzA HOB.out; have hob3 := Lib.hid (own_base hown); obtain ⟨A3, d3, rfl, hC3, _, hCg3⟩ := own_arg hown HC.out.2; have kb3 := kbA.below hbb hgw; have kz3 := kb3.frozen 2; have km3 := kb3.cell 2; simp at km3)
            all_goals
              have kbN : Blk (w4.setCell ⟨w.heap.size, 2, none⟩ (.slice A3 (k + 1) d3)) w.heap.size 72 #[.bool true, .slice A1 m d1, .slice A3 (k + 1) d3] := kb3.set_ 2 _
              have hoN := own_far hown (p := ⟨w.heap.size, 2, none⟩) (fun g hg => by have := hob3.out g hg; show g ≠ w.heap.size; omega) (.slice A3 (k + 1) d3)
              have tN : Turns (· = w.heap.size) w3 (w4.setCell ⟨w.heap.size, 2, none⟩ (.slice A3 (k + 1) d3)) := (turns_below tA hbb).setCell (p := ⟨w.heap.size, 2, none⟩) (.inr rfl) _
              go_wp2_with fail
              go_roundw
              case rel => exact ⟨i + 1, A3, d3, by simp, by omega, by rw [HK.out]; exact kbN, by rw [HK.out]; exact hoN, tN⟩
              case measure => simp [intOf]; omega
        · have hcm : cnt (b + 1) i = m + 1 := by have := cnt_out (b := b + 1) (i := i) (by omega); omega
          have hcf : cf C b i = fold C b := by unfold cf; rw [if_neg (by omega)]
          rw [hcm] at kb ho
          rw [hcf] at ho
          have hin : ¬ (i : Int) < (m : Int) + 1 + 1 := by omega
          obtain ⟨aB, aN, aG, aL⟩ := HA.out
          obtain ⟨g2, cap2, e2, hg2, hc2, hcx, hR⟩ := own_row2 ho (by omega)
          cases e2
          have R : RHist wr w.heap.size m (del B b) (fold C b) A1 d1 g2 d2 :=
            ⟨kb, hR, ArgI.turns aB ht (fun hm g o e => by have := aG g o e; show ¬ g = w.heap.size; omega), aN, fun hm g o e => by have := aG g o e; have := aL hm g o e; omega, hc2, hcx, by omega⟩
          have HR := Lib.hid R
          obtain ⟨c0, c1, c2⟩ := hh.cells
          clear R hR ho kb aB aN aG aL hcm hcf
          go_wp2_with fail
          go_ret2
          exact ⟨_, A1, d1, g2, d2, rfl, HR.out, qq⟩
end
end Go.Proofs.Ytcmkjbliiggcbaa
