/-
  Join: the ends of chains, and the join.
-/
import Derived.Test.YtipniooflaiikaaA4
set_option linter.unusedVariables false
set_option linter.unusedSimpArgs false
namespace Go.Proofs.Ytipniooflaiikaa
open Go.RowKit Go.Shelf

/-- a row of natural numbers -/
abbrev RowN (w : World) (g n : Nat) (f : Nat → Nat) : Prop := RowF .i64 w g 3 n (fun i => (f i : Int))
theorem RowF.set_n {w : World} {g n : Nat} {f : Nat → Nat} (h : RowN w g n f) (q v : Nat) : RowN (w.setCell ⟨g, q, none⟩ (.int .i64 (v : Int))) g n (upd f q v) :=
  (RowF.set_ h q (v : Int)).congr (fun i _ => by unfold upd; split <;> rfl)
set_option maxRecDepth 100000 in
set_option maxHeartbeats 1000000 in
theorem end_ok (n c g s : Nat) (ch r : Nat → Nat) (w : World) (hb : Blk w g 22 #[.slice (some ⟨s, 0, none⟩) n c]) (hr : RowN w s n ch) (hc : Chain ch r n) (hn : n ≤ 100000) (hnc : n ≤ c) (x : Nat) (hx : x < n) :
    Calls Try.prog 45 #[.int .i64 x, .pointer (some ⟨g, 0, none⟩)] w fun e w' => e = .returned (.int .i64 (r x)) ∧ (∃ ch', RowN w' s n ch' ∧ Chain ch' r n) ∧ Turns (· = s) w w' := by
  have hgs : g ≠ s := by
    obtain ⟨cs', h1, _⟩ := hr
    exact Blk.ne_ hb h1 (by decide)
  have HC := Lib.hid hc
  clear hc
  go_enter Try.func45, Try.ntmps45
  go_wp2_with fail
  go_loopw [0] (fun vx wr => ∃ (q : Nat) (ch' : Nat → Nat), vx = .int .i64 q ∧ q < n ∧ Hid (r q = r x) ∧ Hid (Chain ch' r n) ∧ RowN wr s n ch' ∧ Blk wr g 22 #[.slice (some ⟨s, 0, none⟩) n c] ∧ Turns (· = s) w wr) (fun vx _ => (intOf vx).toNat)
  case atStart => exact ⟨x, ch, rfl, hx, Lib.hid rfl, HC, hr, hb, Turns.refl _ _⟩
  case round =>
    clear hr hb HC
    obtain ⟨q, ch', rfl, hq, HQ, HC, hr, hb, ht⟩ := hrel
    have hqn : (q : Int) < (n : Int) := by omega
    have hle := HC.out.le q hq
    have hle2 := HC.out.le (ch' q) (by omega)
    have cq := hr.cell hq
    have cq2 := hr.cell (i := ch' q) (by omega)
    have hz := hr.frozen q
    have k0 := hb.cell 0
    simp at k0
    have HN := Lib.hid (HC.out.next q hq)
    have HN2 := Lib.hid (HC.out.next (ch' q) (by omega))
    have HT := Lib.hid (HC.out.top q hq)
    have HH := Lib.hid (HC.out.halve hq)
    obtain ⟨p, hp⟩ : ∃ p, ch' q = p := ⟨_, rfl⟩
    rw [hp] at cq cq2 hle hle2 HN HN2 HT HH
    obtain ⟨o, ho⟩ : ∃ o, ch' p = o := ⟨_, rfl⟩
    rw [ho] at cq2 hle2 HN2 HH
    clear hp ho
    have hpn : (p : Int) < (n : Int) := by omega
    by_cases e : p = q
    · clear cq2 hle2 HN2 HH
      subst e
      have HR := Lib.hid (show r x = p by rw [← HQ.out]; exact HT.out rfl)
      have HE := Lib.hid HC.out
      go_wp2_with fail
      go_ret
      exact ⟨by rw [HR.out]; rfl, ⟨ch', hr, HC.out⟩, ht⟩
    · have e1 : ((p : Int) == (q : Int)) = false := by simp; omega
      have e2 : ¬ (p : Int) = (q : Int) := by omega
      have e3 : ¬ (q : Int) = (p : Int) := by omega
      have hlt : o < q := by omega
      go_wp2_with fail
      have kd : wr.drew.cell? ⟨g, 0, none⟩ = some (.slice (some ⟨s, 0, none⟩) n c) := k0
      have cqd : wr.drew.cell? ⟨s, q, none⟩ = some (.int .i64 (p : Int)) := cq
      have cpd : wr.drew.cell? ⟨s, p, none⟩ = some (.int .i64 (o : Int)) := cq2
      have czd : wr.drew.frozen? ⟨s, q, none⟩ = false := hz
      go_region
      all_goals
        have R : RowN (wr.setCell ⟨s, q, none⟩ (.int .i64 (o : Int))).drew s n (upd ch' q o) := RowF.set_n hr.drew q o
        have KB : Blk (wr.setCell ⟨s, q, none⟩ (.int .i64 (o : Int))).drew g 22 #[.slice (some ⟨s, 0, none⟩) n c] := hb.drew.far (p := ⟨s, q, none⟩) (by exact hgs) (.int .i64 (o : Int))
        have T : Turns (· = s) w (wr.setCell ⟨s, q, none⟩ (.int .i64 (o : Int))).drew := ht.drew.setCell (p := ⟨s, q, none⟩) (.inr rfl) (.int .i64 (o : Int))
        have RQ := R.cell hq
        rw [upd_at] at RQ
        clear kd cqd cpd czd k0 cq cq2 hz
        generalize (wr.setCell ⟨s, q, none⟩ (.int .i64 (o : Int))).drew = W1 at *
        have KQ := KB.cell 0
        simp at KQ
        have HQ2 := Lib.hid (show r o = r x by rw [HN2.out, HN.out]; exact HQ.out)
        go_wp2_with fail
        go_roundw
        case rel => exact ⟨o, _, rfl, by omega, HQ2, HH, R, KB, T⟩
        case measure => simp [intOf]; omega
/-- what Join returns -/
def JoinOk (w : World) (n m : Nat) (z y : Nat → Int) (e : Ending) (w' : World) : Prop :=
  (¬ Two n m z y ∧ e = .returned (.tuple #[.slice none 0 0, .int .i64 2]) ∧ w = w') ∨
  (Two n m z y ∧ ∃ s r, e = .returned (.tuple #[.slice (some ⟨s, 0, none⟩) n n, .int .i64 0]) ∧ RowN w' s n r ∧ (∀ a b : Nat → Nat, (∀ i, i < n → z i = (a i : Int)) → (∀ i, i < n → y i = (b i : Int)) → IsJoin a b n r) ∧ w.heap.size ≤ s ∧ Below w.heap.size w w')
/-- the joined labels so far -/
def upTo (r : Nat → Nat) (i : Nat) : Nat → Nat := fun j => if j < i then r j else 0
theorem upTo_step (r : Nat → Nat) (i : Nat) : upd (upTo r i) i (r i) = upTo r (i + 1) := by
  funext j
  unfold upd upTo
  by_cases h : j = i
  · subst h; rw [if_pos rfl, if_pos (by omega)]
  · rw [if_neg h]
    by_cases h2 : j < i
    · rw [if_pos h2, if_pos (by omega)]
    · rw [if_neg h2, if_neg (by omega)]
set_option maxRecDepth 100000 in
set_option maxHeartbeats 4000000 in
theorem join_ok (n m c d : Nat) (A B : Option Addr) (z y : Nat → Int) (w : World) (ha : ArgI .i64 w A n c z) (hb : ArgI .i64 w B m d y) (hA : A = none → n = 0 ∧ c = 0) (hn : n ≤ 100000) :
    Calls Try.prog 27 #[.slice A n c, .slice B m d] w fun e w' => JoinOk w n m z y e w' := by
  have x0 := check2_ok n m c d A B z y w ha hb
  go_enter Try.func27, Try.ntmps27
  go_wp2_with fail
  refine x0.mono ?_
  rintro e w' ⟨⟨rfl, h1⟩ | ⟨rfl, h1⟩, rfl⟩
  case inr =>
    have H1 := Lib.hid h1
    clear h1
    go_wp2_with fail
    go_ret2
    exact Or.inl ⟨H1.out, rfl, rfl⟩
  obtain ⟨a, b, hnm, hca, hcb, ea, eb⟩ := h1.nat
  subst hnm
  have H1 := Lib.hid h1
  have HCA := Lib.hid hca
  have HCB := Lib.hid hcb
  have HE := Lib.hid (And.intro ea eb)
  have x1 := clone_ok n c A z w ha hA hn
  have hz : ∀ j, j < n → Fits (z j) := fun j hj => wf_i64 (ha.2.2.2 j hj)
  have HZ := Lib.hid hz
  clear h1 hca hcb ea eb hz x0
  have hmk : ∀ W : World, (Instr.makeSlice 22 (.int .i64 (n : Int)) (.int .i64 (n : Int))).run Try.prog W = .ok (.slice (some ⟨W.heap.size, 0, none⟩) n n) (W.alloc (.cells (zerosK .i64 n) 3)) := fun W => run_make22 n hn W
  go_wp2_with fail
  refine x1.mono ?_
  rintro e w1 ⟨v, rfl, hown, hv1⟩
  have hz1 := hv1.size
  rcases Nat.eq_zero_or_pos n with hn0 | hn0
  · subst hn0
    obtain ⟨A1, c1, rfl, aa, aN, aG⟩ := own_arg hown HZ.out
    have q := (hv1.alloc hz1 (.cells #[.slice A1 0 c1] 22)).alloc (by simp; omega) (.cells (zerosK .i64 0) 3)
    have hr : RowN ((w1.alloc (.cells #[.slice A1 0 c1] 22)).alloc (.cells (zerosK .i64 0) 3)) (w1.heap.size + 1) 0 a := by have h := RowF.new .i64 (w1.alloc (.cells #[.slice A1 0 c1] 22)) 3 0; rw [show (w1.alloc (.cells #[.slice A1 0 c1] 22)).heap.size = w1.heap.size + 1 by simp] at h; exact h.congr (fun i hi => by omega)
    have hmk0 : ∀ W : World, (Instr.makeSlice 22 (.int .i64 0) (.int .i64 0)).run Try.prog W = .ok (.slice (some ⟨W.heap.size, 0, none⟩) 0 0) (W.alloc (.cells (zerosK .i64 0) 3)) := fun W => run_make22 0 (by decide) W
    clear hown x1 aa aN aG hmk
    go_wp2_with fail
    go_loopw [9, 10, 11, 12, 26] (fun _ _ _ _ vi wr => vi = .int .i64 0 ∧ wr = w1.alloc (.cells #[.slice A1 0 c1] 22)) (fun _ _ _ _ _ _ => 0)
    case atStart => exact ⟨rfl, rfl⟩
    case round =>
    obtain ⟨rfl, rfl⟩ := hrel
    go_wp2_with fail
    go_loopw [14, 51] (fun _ vi wr => vi = .int .i64 0 ∧ wr = (w1.alloc (.cells #[.slice A1 0 c1] 22)).alloc (.cells (zerosK .i64 0) 3)) (fun _ _ _ => 0)
    case atStart => exact ⟨rfl, rfl⟩
    case round =>
    obtain ⟨rfl, rfl⟩ := hrel
    go_wp2_with fail
    go_ret2
    exact Or.inr ⟨H1.out, _, a, rfl, hr, fun a' b' _ _ => ⟨fun i hi => by omega, fun i hi => by omega, fun i j k => by have := k.1; omega⟩, by omega, q⟩
  obtain ⟨s, cap, rfl, hs, hcap, hrow⟩ := own_row hown hn0
  have hr0 : RowN w1 s n a := hrow.congr HE.out.1
  have kb := Blk.new w1 22 #[.slice (some ⟨s, 0, none⟩) n cap]
  have hr1 := hr0.alloc (.cells #[.slice (some ⟨s, 0, none⟩) n cap] 22)
  have q1 := hv1.alloc hz1 (.cells #[.slice (some ⟨s, 0, none⟩) n cap] 22)
  have hsl := hr0.lt
  obtain ⟨G, hG⟩ : ∃ G, w1.heap.size = G := ⟨_, rfl⟩
  rw [hG] at kb hz1 hsl
  have HG := Lib.hid hG
  clear hown x1 hrow hr0
  go_upto_region 6 with fail
  clear hG
  generalize w1.alloc (.cells #[.slice (some ⟨s, 0, none⟩) n cap] 22) = W1 at *
  go_wp2_with fail
  go_loopw [9, 10, 11, 12, 26] (fun _ _ _ _ vi wr => ∃ (i : Nat) (ch r : Nat → Nat), vi = .int .i64 i ∧ i ≤ n ∧ Hid (Chain ch r n) ∧ Hid (Ends a b n i r) ∧ RowN wr s n ch ∧ Blk wr G 22 #[.slice (some ⟨s, 0, none⟩) n cap] ∧ Below w.heap.size w wr) (fun _ _ _ _ vi _ => n - (intOf vi).toNat)
  case atStart => exact ⟨0, a, a, rfl, Nat.zero_le _, Lib.hid (Chain.of_can HCA.out), Lib.hid (Ends.start HCA.out), hr1, kb, q1⟩
  case round =>
    clear hr1 kb q1
    obtain ⟨i, ch, r, rfl, hi, HC, HEn, hr, kb, q⟩ := hrel
    have hbw := hb.below q
    by_cases hlt : i < n
    · have hin : (i : Int) < (n : Int) := by omega
      obtain ⟨g, o, rfl, hg, hc⟩ := hbw.2.2.1 (by omega)
      have hcB := hbw.1
      have ci := hc i hlt
      rw [HE.out.2 i hlt] at ci
      have hbi := (HCB.out i hlt).1
      have hb' := hb
      obtain ⟨l, hl⟩ : ∃ l, b i = l := ⟨_, rfl⟩
      rw [hl] at ci hbi
      have HL := Lib.hid hl
      have hln : l < n := by omega
      have x2 := end_ok n cap G s ch r wr kb hr HC.out hn hcap i hlt
      clear hl hc
      go_wp2_with fail
      refine x2.mono ?_
      rintro e w2 ⟨rfl, ⟨ch2, hr2, hc2⟩, t2⟩
      have hgs : G ≠ s := by omega
      have kb2 := kb.turns t2 hgs
      have x3 := end_ok n cap G s ch2 r w2 kb2 hr2 hc2 hn hcap l hln
      clear x2
      go_wp2_with fail
      refine x3.mono ?_
      rintro e w3 ⟨rfl, ⟨ch3, hr3, hc3⟩, t3⟩
      have kb3 := kb2.turns t3 hgs
      have q3 := below_turns (below_turns q q.size t2 (fun k hk => by show ¬ k = s; omega)) (Nat.le_trans q.size t2.size) t3 (fun k hk => by show ¬ k = s; omega)
      have hri := hc3.rle i hlt
      have hrl := hc3.rle l hln
      have HC2 := Lib.hid (hc3.union hlt hln)
      have HE2 := Lib.hid (HEn.out.next hlt (by rw [HL.out]; exact hln))
      rw [HL.out] at HE2
      obtain ⟨p, hp⟩ : ∃ p, r i = p := ⟨_, rfl⟩
      obtain ⟨t, ht⟩ : ∃ t, r l = t := ⟨_, rfl⟩
      rw [hp, ht] at HC2 HE2
      rw [hp] at hri
      rw [ht] at hrl
      rw [hp, ht]
      obtain ⟨M, hM⟩ : ∃ M, max p t = M := ⟨_, rfl⟩
      obtain ⟨N, hN⟩ : ∃ N, min p t = N := ⟨_, rfl⟩
      rw [hM, hN] at HC2
      have hMi : max (p : Int) (t : Int) = (M : Int) := by omega
      have hNi : min (p : Int) (t : Int) = (N : Int) := by omega
      have hMn : M < n := by omega
      have hMl : (M : Int) < (n : Int) := by omega
      have k0 := kb3.cell 0
      simp at k0
      have hrc := hr3.cell hMn
      have hrz := hr3.frozen M
      clear x3 hp ht hM hN hc2 hc3
      go_wp2_with fail
      have R := hr3.set_n M N
      have K := kb3.far (p := ⟨s, M, none⟩) (by exact hgs) (.int .i64 (N : Int))
      have Q := q3.setCell (p := ⟨s, M, none⟩) (by exact hs) (.int .i64 (N : Int))
      go_roundw
      case rel => exact ⟨i + 1, _, _, by simp, by omega, HC2, HE2, R, K, Q⟩
      case measure => simp [intOf]; omega
    · have hin : ¬ (i : Int) < (n : Int) := by omega
      have hie : i = n := by omega
      have HJ := Lib.hid (show IsJoin a b n r from by have h := HEn.out; rw [hie] at h; exact h.join HC.out HCA.out HCB.out)
      have hGl := kb.lt
      obtain ⟨J, hJ⟩ : ∃ J, wr.heap.size = J := ⟨_, rfl⟩
      have jr : RowN (wr.alloc (.cells (zerosK .i64 n) 3)) J n (upTo r 0) := by rw [← hJ]; exact (RowF.new .i64 wr 3 n).congr (fun i hi => by unfold upTo; rw [if_neg (by omega)]; rfl)
      have hr2 := hr.alloc (.cells (zerosK .i64 n) 3)
      have kb2 := kb.alloc (.cells (zerosK .i64 n) 3)
      have q2 := q.alloc q.size (.cells (zerosK .i64 n) 3)
      have hsJ : s < J := by have := hr.lt; omega
      have hGJ : G < J := by omega
      have hJw : w.heap.size ≤ J := by have := q.size; omega
      clear hr kb hie
      go_upto_region 13 with fail
      clear hJ hmk
      generalize wr.alloc (.cells (zerosK .i64 n) 3) = W2 at *
      clear q hbw hi hlt
      obtain ⟨wo, ewo⟩ : ∃ wo : World, wo = wr := ⟨_, rfl⟩
      subst ewo
      go_wp2_with fail
      go_loopw [14, 51] (fun _ vi wr => ∃ (i : Nat) (ch : Nat → Nat), vi = .int .i64 i ∧ i ≤ n ∧ Hid (Chain ch r n) ∧ RowN wr s n ch ∧ RowN wr J n (upTo r i) ∧ Blk wr G 22 #[.slice (some ⟨s, 0, none⟩) n cap] ∧ Below w.heap.size w wr) (fun _ vi _ => n - (intOf vi).toNat)
      case atStart => exact ⟨0, ch, rfl, Nat.zero_le _, HC, hr2, jr, kb2, q2⟩
      case round =>
        clear hr2 jr kb2 q2
        obtain ⟨i, ch, rfl, hi, HC, hr, jr, kb, q⟩ := hrel
        by_cases hlt : i < n
        · have hin : (i : Int) < (n : Int) := by omega
          have x2 := end_ok n cap G s ch r wr kb hr HC.out hn hcap i hlt
          go_wp2_with fail
          refine x2.mono ?_
          rintro e w2 ⟨rfl, ⟨ch2, hr2, hc2⟩, t2⟩
          have kb2 := kb.turns t2 (by show ¬ G = s; omega)
          have jr2 := jr.turns t2 (by show ¬ J = s; omega)
          have q2 := below_turns q q.size t2 (fun k hk => by show ¬ k = s; omega)
          have HC2 := Lib.hid hc2
          have hrc := jr2.cell hlt
          have hrz := jr2.frozen i
          have hus := Lib.hid (upTo_step r i)
          obtain ⟨p, hp⟩ : ∃ p, r i = p := ⟨_, rfl⟩
          rw [hp] at hus
          rw [hp]
          clear x2 hc2 hp
          go_wp2_with fail
          have R := jr2.set_n i p
          rw [hus.out] at R
          have R2 := hr2.far (p := ⟨J, i, none⟩) (by show s ≠ J; omega) (.int .i64 (p : Int))
          have K := kb2.far (p := ⟨J, i, none⟩) (by show G ≠ J; omega) (.int .i64 (p : Int))
          have Q := q2.setCell (p := ⟨J, i, none⟩) (by exact hJw) (.int .i64 (p : Int))
          go_roundw
          case rel => exact ⟨i + 1, ch2, by simp, by omega, HC2, R2, R, K, Q⟩
          case measure => simp [intOf]; omega
        · have hin : ¬ (i : Int) < (n : Int) := by omega
          have hie : i = n := by omega
          have HR := Lib.hid (show RowN wr J n r from jr.congr (fun j hj => by unfold upTo; rw [if_pos (by omega)]))
          clear hie jr hr kb
          go_wp2_with fail
          go_ret2
          refine Or.inr ⟨H1.out, J, r, rfl, HR.out, fun a' b' h1 h2 => HJ.out.congr (fun i hi => ?_) (fun i hi => ?_), hJw, q⟩
          · have e1 := HE.out.1 i hi; rw [h1 i hi] at e1; omega
          · have e1 := HE.out.2 i hi; rw [h2 i hi] at e1; omega
end Go.Proofs.Ytipniooflaiikaa
