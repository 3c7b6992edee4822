/-
  splay.
-/
import Derived.Test.YtgichkjomhnehaaM4
import Derived.Deep.LoopGhost
set_option linter.unusedVariables false
set_option linter.unusedSimpArgs false
namespace Go.Proofs.Ytgichkjomhnehaa
open Go.RowKit Go.Shelf

attribute [local go_sem] Oper.semAt_some

theorem back_any (v : Value) (A : Option Addr) (m c : Nat) (hv : v = .slice A m c) (w : World) :
    Calls Try.prog 65 #[v] w fun e w' => e = .returned (.func (.func 70) #[] #[.pointer (some ⟨w.heap.size, 0, none⟩)]) ∧ w.alloc (.cells #[v] 25) = w' := by
  subst hv
  go_enter Try.func65, Try.ntmps65
  go_wp2
  go_ret
  exact ⟨rfl, rfl⟩
theorem back_stops (Bp g m c : Nat) (L : List Nat) (hm : L.length = m) (hm0 : m ≤ 65536) (hmc : m ≤ c) (w : World) (hBp : Blk w Bp 25 #[.slice (some ⟨g, 0, none⟩) m c]) (hR : ∃ cs, Blk w g 3 cs ∧ ∀ i, i < m → cs[i]? = some (Value.int .i64 (L.getD i 0 : Nat))) :
    SeqStopsK Fence.wide 8 Try.prog 70 #[.pointer (some ⟨Bp, 0, none⟩)] (fun x : Nat => #[Value.int .i64 (x : Nat), Value.int .i64 (L.getD x 0 : Nat)]) (KpB [Bp, g]) (fun ys => ys = dnl m) (fun _ => True) m w := fun l J Jx W hW _ _ hY h0 =>
  back1_in l Bp g m c L hm hm0 J Jx hY W (hBp.below hW hBp.lt) hmc (by obtain ⟨cs, h1, h2⟩ := hR; exact ⟨cs, h1.below hW h1.lt, h2⟩) h0
theorem RowL.row {w : World} {B : Nat} {A : Option Addr} {n c : Nat} {l : List Nat} (h : RowL w B (.slice A n c) l) (hl : 0 < l.length) : ∃ g, A = some ⟨g, 0, none⟩ ∧ B ≤ g ∧ l.length ≤ c ∧ ∃ cs, Blk w g 3 cs ∧ ∀ i, i < l.length → cs[i]? = some (Value.int .i64 (l.getD i 0 : Nat)) := by
  have h2 := h
  unfold RowL at h2
  rw [nums_vals] at h2
  obtain ⟨g, cap, hv, hg, hc, cs, k1, k2⟩ := own_row h2 hl
  cases hv
  exact ⟨g, rfl, hg, hc, cs, k1, k2⟩
theorem SP.own {w w' : World} {b s n : Nat} {st : Nat → Nd} {row : Option Nat} (h : SP w b s n st) (hg : w.grownBy w' row) (hr : ∀ r, row = some r → ∃ o : Obj, w.heap[r]? = some o ∧ o.isCells = false) : SP w' b s n st := by
  obtain ⟨⟨c, k, hc⟩, cs, k2, hcs⟩ := h
  exact ⟨⟨c, k.own hg hr, hc⟩, cs, k2.own hg hr, hcs⟩
theorem SP.isCells {w : World} {b s n : Nat} {st : Nat → Nd} (h : SP w b s n st) : ∃ cs, w.heap[s]? = some (.cells cs 74 (0, 0)) := by
  obtain ⟨_, cs, k2, _⟩ := h
  exact ⟨cs, k2⟩
theorem keeps_turns {s : Nat} {w w' : World} (h : Turns (· = s) w w') (hs : ∃ cs, w.heap[s]? = some (.cells cs 74 (0, 0))) : KeepsOthers w w' :=
  ⟨h.size, fun k o hk ho => by
    have hlt := (Array.getElem?_eq_some_iff.1 hk).1
    rw [h.block k hlt (fun e => by
      obtain ⟨cs, hc⟩ := hs
      rw [e, hc] at hk
      cases hk
      cases ho)]
    exact hk⟩
theorem keepD {s D B : Nat} {W W' : World} (h : Hid (W.heap[D]? = some (.deferred (some [])) ∧ B ≤ D ∧ D ≠ s ∧ D < W.heap.size)) (hT : Turns (· = s) W W') : Hid (W'.heap[D]? = some (.deferred (some [])) ∧ B ≤ D ∧ D ≠ s ∧ D < W'.heap.size) := by
  obtain ⟨h1, h2, h3, h4⟩ := h.out
  exact Lib.hid ⟨(hT.block D h4 h3).trans h1, h2, h3, Nat.lt_of_lt_of_le h4 hT.size⟩
theorem sv_eq {a b : Bool} : sv a = sv b ↔ a = b := by cases a <;> cases b <;> simp [sv]
theorem not_eq_nat {a b : Nat} (h : a ≠ b) : ((a : Int) == (b : Int)) = false := by simp; omega
set_option maxRecDepth 100000 in
set_option maxHeartbeats 4000000 in
theorem splay_ok (b s n : Nat) (st : Nat → Nd) (x : Nat) (V : Nat → Int) (t : T) (σ ι : List Nat) (w : World) (h : SP w b s n st) (hn : n ≤ 65536) (hW : Whole V st t σ ι) (hE : Env V n st ι) (hx : x ∈ ι) :
    Calls Try.prog 58 #[.pointer (some ⟨b, 0, none⟩), .int .i64 x] w fun e w' => e = .returned (.tuple #[]) ∧ (∃ st', SP w' b s n st' ∧ Ctx V st' x [] σ ι ∧ (∀ k, k ∉ ι → st' k = st k) ∧ Env V n st' ι) ∧ Turns (· = s) w w' := by
  -- the path
  have hxt : x ∈ t.ids := hW.ids.mem_iff.2 hx
  obtain ⟨ps, hps⟩ := path_of_mem hxt
  obtain ⟨L, hLr⟩ : ∃ L, ps.reverse = L := ⟨_, rfl⟩
  have hU : UpL st x L := by have := path_up hps hW.rep (L := []) (show UpL st 0 [] from rfl); rw [← hLr]; simpa using this
  have hLn : ∀ y ∈ L, y ≤ n := fun y hy => (hE.mem y (hW.ids.mem_iff.1 (hps.ids y (by rw [← hLr] at hy; simpa using hy)))).2
  have hLl : L.length ≤ 65536 := by
    have h1 := hps.len
    rw [hW.ids.length_eq] at h1
    rw [← hLr, List.length_reverse]
    exact Nat.le_trans h1 hE.len
  have hL0 : 0 < L.length := by rw [← hLr, List.length_reverse]; exact List.length_pos_iff.2 hps.ne
  have hgo : Going V st x ps σ ι := ⟨[], t, hW, hps⟩
  obtain ⟨ga1, c0, ga2⟩ := going_all hE.nd hgo hps.ne
  have hfin : pushL st ((dnl L.length).map fun k => L.getD k 0) = pushL st ps := by rw [dnl_map L L.length (Nat.le_refl _), List.take_length, ← hLr, List.reverse_reverse]
  have hE1 : Env V n (pushL st ps) ι := ⟨hE.fit, hE.nd, hE.mem, hE.len, (ga1 0 hE.zero_mem).trans hE.zero, hE.kb.pushL ps⟩
  have HG := Lib.hid (And.intro ga1 (And.intro ga2 (And.intro hfin hE1)))
  have HKB := Lib.hid (fun l => hE.kb.pushL (n := n) (st := st) l)
  have HL := Lib.hid (fun k : Nat => show L.getD k 0 ≤ n from by
    rw [List.getD_eq_getElem?_getD]
    cases hk : L[k]? with
    | none => exact Nat.zero_le _
    | some y => exact hLn y (List.mem_of_getElem? hk))
  have HE := Lib.hid hE
  have hxn : x ≤ n := (hE.mem x hx).2
  have HX := Lib.hid hx
  clear ga1 ga2 hfin hE1 hE hgo hps hLr hxt hW hx
  -- the boxes
  have hb1 := below_new1 w (.cells #[.pointer (some ⟨b, 0, none⟩)] 23)
  have hB0 : Blk (w.alloc (.cells #[.pointer (some ⟨b, 0, none⟩)] 23)) w.heap.size 23 #[.pointer (some ⟨b, 0, none⟩)] := Blk.new _ _ _
  have hlt := h.lt
  have hS1 := h.below hb1
  have hsz1 : (w.alloc (.cells #[.pointer (some ⟨b, 0, none⟩)] 23)).heap.size = w.heap.size + 1 := by simp
  have HSZ := Lib.hid hsz1
  refine calls_of_marks Try.func58 rfl ?_
  simp only [Try.ntmps58, List.size_toArray, List.length_cons, List.length_nil, Nat.reduceAdd, Nat.reduceSub, Array.replicate_succ, Array.replicate_zero, List.push_toArray, List.append_toArray, List.nil_append, List.cons_append]
  go_upto_region 1 with fail
  generalize w.alloc (.cells #[.pointer (some ⟨b, 0, none⟩)] 23) = W0 at *
  clear hsz1
  have c0' := hB0.cell 0
  simp at c0'
  go_wp2_with fail
  refine (above_any (some ⟨b, 0, none⟩) (x : Int) W0).mono ?_
  rintro e w' ⟨rfl, rfl⟩
  have hb2 := below_new2 W0 (.cells #[.pointer (some ⟨b, 0, none⟩)] 23) (.cells #[.int .i64 (x : Int)] 3)
  have kB1 := (Blk.new W0 23 #[.pointer (some ⟨b, 0, none⟩)]).alloc (.cells #[.int .i64 (x : Int)] 3)
  have kB2 := Blk.new2 W0 (.cells #[.pointer (some ⟨b, 0, none⟩)] 23) 3 #[.int .i64 (x : Int)]
  have x1 := collect_ok (W0.heap.size + 1) W0.heap.size b s n st x L _ hn hU hLn hLl kB2 kB1 (hS1.below hb2)
  go_wp2_with fail
  refine x1.mono ?_
  rintro e W1 ⟨v, rfl, hR, hv⟩
  have q01 : Below W0.heap.size W0 W1 := below_go hb2 (by simp) hv
  have hS2 := hS1.below q01
  have hB02 := hB0.below q01 hB0.lt
  have hT : Turns (· = s) w W1 := Turns.of_below (below_go hb1 (Nat.le_refl _) q01) _
  obtain ⟨A, c, rfl⟩ := hR.slice
  obtain ⟨g, rfl, hg, hmc, hRow⟩ := hR.row hL0
  have hq1 := q01.size
  have hg1 : W0.heap.size < g := by simp at hg; omega
  clear x1 kB1 kB2 hb2 hU hR hv hg
  obtain ⟨m, hm⟩ : ∃ m, L.length = m := ⟨_, rfl⟩
  rw [hm] at hmc hRow hLl hL0 ⊢
  go_wp2_with fail
  refine (back_any _ _ m c rfl W1).mono ?_
  rintro e w' ⟨rfl, rfl⟩
  have hb3 := below_new1 W1 (.cells #[.slice (some ⟨g, 0, none⟩) m c] 25)
  have kB3 := Blk.new W1 25 #[.slice (some ⟨g, 0, none⟩) m c]
  have hS3 := hS2.below hb3
  have hB03 := hB02.below hb3 hB02.lt
  have hT3 := hT.alloc (.cells #[.slice (some ⟨g, 0, none⟩) m c] 25)
  obtain ⟨cs, hRb, hRc⟩ := hRow
  have hglt := hRb.lt
  have hRow3 : ∃ cs, Blk (W1.alloc (.cells #[.slice (some ⟨g, 0, none⟩) m c] 25)) g 3 cs ∧ ∀ i, i < m → cs[i]? = some (Value.int .i64 (L.getD i 0 : Nat)) := ⟨cs, hRb.below hb3 hglt, hRc⟩
  have hlt3 : g < (W1.alloc (.cells #[.slice (some ⟨g, 0, none⟩) m c] 25)).heap.size ∧ W1.heap.size < (W1.alloc (.cells #[.slice (some ⟨g, 0, none⟩) m c] 25)).heap.size ∧ w.heap.size + 1 ≤ (W1.alloc (.cells #[.slice (some ⟨g, 0, none⟩) m c] 25)).heap.size := by simp; have := HSZ.out; omega
  obtain ⟨Bp, hBp⟩ : ∃ Bp, W1.heap.size = Bp := ⟨_, rfl⟩
  rw [hBp] at kB3 hlt3 ⊢
  have hne : s ≠ Bp ∧ s ≠ g ∧ s ≠ w.heap.size := by have := HSZ.out; omega
  clear hRb hRc hb3 hB02 hS2 hS1 hB0 c0' hT q01 hBp
  go_wp2_with fail
  generalize W1.alloc (.cells #[.slice (some ⟨g, 0, none⟩) m c] 25) = W2 at *
  refine wpIn_wide.1 (wpIn_rangeFunc_ownF (F := Fence.wide) (n := 9) rfl (by decide) (gf := 70) (lb := #[.pointer (some ⟨Bp, 0, none⟩)]) rfl trivial (enters_of Try.func70 (by kernel_rfl) rfl)
    (back_stops Bp g m c L hm hLl hmc _ kB3 hRow3) (fun h k => h.trans k) (fun W k o o' hk _ _ _ => KpB.putObj o' (fun j hj => by simp at hj hk; rcases hj with rfl | rfl <;> omega)) (Below.refl _ _) (fun _ => rfl)
    (fun pre W => (SP W b s n (pushL st (pre.map fun k => L.getD k 0)) ∧ Blk W w.heap.size 23 #[.pointer (some ⟨b, 0, none⟩)] ∧ W2.heap.size ≤ W.heap.size) ∧ Turns (· = s) w W)
    (fun _ _ _ => False)
    (OwnFrom.and (Own.from (fun s A B row hs hg hr => ⟨hs.1.own hg hr, hs.2.1.own hg hr, Nat.le_trans hs.2.2 hg.size⟩) _) (ownFrom_turns (by omega)))
    (fun _ _ _ _ _ hs _ _ => hs)
    ⟨⟨hS3, hB03, Nat.le_refl _⟩, hT3⟩
    (fun k => { tmps := #[.pointer (some ⟨b, 0, none⟩), .int .i64 (x : Int), .pointer (some ⟨w.heap.size, 0, none⟩), undef, .slice (some ⟨g, 0, none⟩) m c, undef, .int .i64 (L.getD k 0 : Nat), undef, .pointer (some ⟨b, 0, none⟩), .int .i64 (x : Int), .func (.func 69) #[] #[.pointer (some ⟨W0.heap.size + 1, 0, none⟩), .pointer (some ⟨W0.heap.size, 0, none⟩)], .slice (some ⟨g, 0, none⟩) m c, .slice (some ⟨g, 0, none⟩) m c, .func (.func 70) #[] #[.pointer (some ⟨Bp, 0, none⟩)], .int .i64 (k : Nat), .int .i64 (L.getD k 0 : Nat), undef, undef, undef, undef, undef, undef, undef, undef, undef, undef, undef, undef, undef, undef, undef, undef, undef, undef, undef, undef, undef, undef, undef, undef, undef, undef, undef, undef, undef, undef, undef, undef, undef, undef, undef, undef, undef, undef, undef, undef, undef, undef, undef, undef, undef], defers := [] }) ?assign ?body ?done ?stop)
  case assign =>
    intro l k W K hK
    gi_wp2
    exact hK
  case body =>
    rintro l pre k W ⟨⟨kS, k0, ksz⟩, hB⟩ hpl
    have c0 := k0.cell 0
    simp at c0
    have hkb := HKB.out (pre.map fun k => L.getD k 0)
    have hy := HL.out k
    obtain ⟨y, hye⟩ : ∃ y, L.getD k 0 = y := ⟨_, rfl⟩
    have HY := Lib.hid hye
    rw [hye] at hy
    have xp := push_ok b s n _ y W kS hn hy (hkb y).1 (hkb y).2
    rw [hye]
    have HS := Lib.hid (And.intro kS k0)
    clear hkb hye kS k0
    gi_wp2_with fail
    refine ⟨trivial, (CallsIn.inRound l (callsIn_wide.2 xp)).mono ?_⟩
    rintro e W3 ⟨rfl, kS3, kT⟩
    gi_wp2_with fail
    have hk3 := keeps_turns kT HS.out.1.isCells
    refine ⟨hk3, fun j hj => kT.block j ?_ ?_, ⟨?_, (HS.out.2.turns kT (by exact fun e => hne.2.2 e.symm)), Nat.le_trans ksz kT.size⟩, hB.trans kT⟩
    · simp at hj
      rcases hj with rfl | rfl <;> omega
    · simp at hj
      rcases hj with rfl | rfl
      · exact fun e => hne.1 e.symm
      · exact fun e => hne.2.1 e.symm
    · rw [List.map_append, List.map_cons, List.map_nil, pushL_snoc, HY.out]
      exact kS3
  case done =>
    rintro D ys W hD rfl ⟨⟨kS, k0, ksz⟩, hB⟩ hK
    obtain ⟨ga1, ga2, hfin, hE1⟩ := HG.out
    rw [hm] at hfin
    rw [hfin] at kS
    have HG1 := Lib.hid ga1
    have HG2 := Lib.hid ga2
    have HE1 := Lib.hid hE1
    have hDs : D ≠ s := by have := hS3.lt; omega
    have hDlt := (Array.getElem?_eq_some_iff.1 hK).1
    have HD := Lib.hid (show W.heap[D]? = some (.deferred (some [])) ∧ w.heap.size ≤ D ∧ D ≠ s ∧ D < W.heap.size from ⟨hK, by omega, hDs, hDlt⟩)
    clear ga1 ga2 hfin hE1 hm hK hDlt hDs
    generalize pushL st ps = st1 at *
    go_wp2_with fail
    go_loopg [7] c0.length (fun k _ wr => ∃ (st2 : Nat → Nd) (c2 : List Fr), k = c2.length ∧ SP wr b s n st2 ∧ Hid (Ctx V st2 x c2 σ ι) ∧ Hid (∀ k, k ∉ ι → st2 k = st k) ∧ Hid (Env V n st2 ι) ∧ Blk wr w.heap.size 23 #[.pointer (some ⟨b, 0, none⟩)] ∧ Turns (· = s) w wr ∧ Hid (wr.heap[D]? = some (.deferred (some [])) ∧ w.heap.size ≤ D ∧ D ≠ s ∧ D < wr.heap.size))
    case atStart => exact ⟨st1, c0, rfl, kS, HG2, HG1, HE1, k0, hB, HD⟩
    case round =>
      clear kS k0 hB ksz HG1 HG2 HE1 HD
      obtain ⟨st2, c2, rfl, kS, HC, HO, HE2, k0, hB, HD⟩ := hrel
      have cb := k0.cell 0
      simp at cb
      obtain ⟨c9, cs1, hc91, hc92⟩ := kS.cell1
      have cu : wr.cell? ⟨s, x * 9 + 2, none⟩ = some (.int .i64 ((st2 x).up : Int)) := kS.2.cell hxn 2 (by decide)
      rw [HC.out.top.1] at cu
      have hxi : (x : Int) < (n : Int) + 1 := by omega
      rcases c2 with _ | ⟨fr, c2⟩
      · replace cu : wr.cell? ⟨s, x * 9 + 2, none⟩ = some (.int .i64 0) := cu
        go_wp2_with fail
        obtain ⟨d1, d2, d3, d4⟩ := HD.out
        refine postM_mark rfl d1 (results_none rfl _ _ _) ?_
        have hq := d2
        exact ⟨rfl, ⟨st2, kS.own (grownBy_putObj' wr D _) (fun r e => by cases e; exact ⟨_, d1, rfl⟩), HC.out, HO.out, HE2.out⟩, turns_putObj hB (by omega)⟩
      · have hnx := HC.out.next HE2.out.nd
        obtain ⟨np0, npu, nps, npx⟩ := hnx
        have hpn : fr.i ≤ n := (HE2.out.mem _ (HC.out.mem.2 _ (by simp [cids]))).2
        replace cu : wr.cell? ⟨s, x * 9 + 2, none⟩ = some (.int .i64 (fr.i : Int)) := cu
        have cp : wr.cell? ⟨s, fr.i * 9 + 2, none⟩ = some (.int .i64 ((st2 fr.i).up : Int)) := kS.2.cell hpn 2 (by decide)
        rw [npu] at cp
        have HP := Lib.hid (And.intro np0 (And.intro npu (And.intro nps npx)))
        obtain ⟨p, hp⟩ : ∃ p, fr.i = p := ⟨_, rfl⟩
        have HPE := Lib.hid hp
        rw [hp] at cu cp hpn np0
        have hp1 : ((p : Int) == 0) = false := not_eq_nat np0
        have hp2 : ¬ (p : Int) = 0 := by omega
        have hpi : (p : Int) < (n : Int) + 1 := by omega
        clear npu nps npx hp np0
        rcases c2 with _ | ⟨fr2, c2⟩
        · replace cp : wr.cell? ⟨s, p * 9 + 2, none⟩ = some (.int .i64 0) := cp
          obtain ⟨ro, rc, rout, rE⟩ := rot_ready HE2.out HC.out
          have HO9 := Lib.hid (fun k (hk : k ∉ ι) => (rout k hk).trans (HO.out k hk))
          have HC9 := Lib.hid rc
          have HE9 := Lib.hid rE
          have xr := rotate_ok b s n st2 x _ kS hn ro
          clear rout rc rE ro
          go_wp2_with fail
          refine xr.mono ?_
          rintro e W9 ⟨rfl, kS9, kT⟩
          have k09 := k0.turns kT (by exact fun e => hne.2.2 e.symm)
          have hB9 := hB.trans kT
          have HD9 := keepD HD kT
          clear xr kT
          go_wp2_with fail
          go_roundg 0
          case measure => simp
          case rel => exact ⟨_, _, rfl, kS9, HC9, HO9, HE9, k09, hB9, HD9⟩
        · have hn2 := (HC.out.next2 HE2.out.nd).2.next HE2.out.nd
          have hn3 := HC.out.next2 HE2.out.nd
          replace cp : wr.cell? ⟨s, p * 9 + 2, none⟩ = some (.int .i64 (fr2.i : Int)) := cp
          obtain ⟨g2, hg2⟩ : ∃ g2, fr2.i = g2 := ⟨_, rfl⟩
          have g20 : g2 ≠ 0 := by rw [← hg2]; exact hn2.1
          have g2n : g2 ≤ n := by rw [← hg2]; exact (HE2.out.mem _ (HC.out.mem.2 _ (by simp [cids]))).2
          have hg1' : ((g2 : Int) == 0) = false := not_eq_nat g20
          have hg2' : ¬ (g2 : Int) = 0 := by omega
          rw [hg2] at cp
          have yx : ∀ m, Calls Try.prog 66 #[.pointer (some ⟨b, 0, none⟩), .int .i64 (x : Int)] (wr.drewN m) fun e w' => e = .returned (.int .i64 (sv fr.side)) ∧ ∃ m', w' = (wr.drewN m).drewN m' := fun m => by
            have := side_ok b s n st2 x (wr.drewN m) (kS.drewN m) hn hxn (by rw [HC.out.top.1]; show fr.i ≤ n; rw [HPE.out]; exact hpn)
            rw [HP.out.2.2.1] at this
            exact this
          have yp : ∀ m, Calls Try.prog 66 #[.pointer (some ⟨b, 0, none⟩), .int .i64 (p : Int)] (wr.drewN m) fun e w' => e = .returned (.int .i64 (sv fr2.side)) ∧ ∃ m', w' = (wr.drewN m).drewN m' := fun m => by
            have := side_ok b s n st2 p (wr.drewN m) (kS.drewN m) hn hpn (by rw [← HPE.out, HP.out.2.1]; show fr2.i ≤ n; rw [hg2]; exact g2n)
            rw [← HPE.out, hn3.1, HPE.out] at this
            exact this
          have YX := Lib.hid yx
          have YP := Lib.hid yp
          clear yx yp hg2 hn2 hn3 g20
          by_cases hs : fr.side = fr2.side
          · have HS := Lib.hid hs
            obtain ⟨z, hz⟩ : ∃ z, sv fr2.side = z := ⟨_, rfl⟩
            rw [hs, hz] at YX
            rw [hz] at YP
            clear hs hz
            go_upto_region 8 with fail
            go_quiet ((first | (go_at_call 66; (with_reducible exact Calls.quiet_of (YX.out _))) | (go_at_call 66; (with_reducible exact Calls.quiet_of (YP.out _)))))
            have kS := kS.drewN nq
            have k0 := k0.drewN nq
            have hB := hB.drewN nq
            have HD := keepD HD ((Turns.refl (· = s) wr).drewN nq)
            have cb : (wr.drewN nq).cell? ⟨w.heap.size, 0, none⟩ = some (.pointer (some ⟨b, 0, none⟩)) := cb
            have cs1 : (wr.drewN nq).cell? ⟨b, 1, none⟩ = some (.slice (some ⟨s, 0, none⟩) (n + 1) c9) := cs1
            generalize wr.drewN nq = wr2 at *
            clear cu cp YX YP
            obtain ⟨ro, ⟨fr', rc⟩, rout, rE⟩ := rot_up_ready HE2.out HC.out HS.out
            rw [HPE.out] at ro rc rout rE
            have HO7 := Lib.hid (fun k (hk : k ∉ ι) => (rout k hk).trans (HO.out k hk))
            have HC7 := Lib.hid rc
            have HE7 := Lib.hid rE
            have xr := rotate_ok b s n st2 p wr2 kS hn ro
            clear rout rc rE ro
            go_wp2_with fail
            refine xr.mono ?_
            rintro e W7 ⟨rfl, kS7, kT⟩
            have k0 := k0.turns kT (by exact fun e => hne.2.2 e.symm)
            have hB := hB.trans kT
            have HD := keepD HD kT
            have kS := kS7
            have cb := k0.cell 0
            simp at cb
            clear xr kT kS7 cs1
            obtain ⟨ro, rc, rout, rE⟩ := rot_ready HE7.out HC7.out
            have HO9 := Lib.hid (fun k (hk : k ∉ ι) => (rout k hk).trans (HO7.out k hk))
            have HC9 := Lib.hid rc
            have HE9 := Lib.hid rE
            have xr := rotate_ok b s n (rotateF st2 p) x _ kS hn ro
            clear rout rc rE ro
            go_wp2_with fail
            refine xr.mono ?_
            rintro e W9 ⟨rfl, kS9, kT⟩
            have k09 := k0.turns kT (by exact fun e => hne.2.2 e.symm)
            have hB9 := hB.trans kT
            have HD9 := keepD HD kT
            clear xr kT
            go_wp2_with fail
            go_roundg c2.length
            case measure => simp; omega
            case rel => exact ⟨_, _, rfl, kS9, HC9, HO9, HE9, k09, hB9, HD9⟩
          · obtain ⟨z, hz⟩ : ∃ z, sv fr.side = z := ⟨_, rfl⟩
            obtain ⟨z2, hz2⟩ : ∃ z2, sv fr2.side = z2 := ⟨_, rfl⟩
            have hzz : ¬ z = z2 := fun e => hs (sv_eq.1 (by rw [hz, hz2, e]))
            have hzz2 : (z == z2) = false := by simpa using hzz
            rw [hz] at YX
            rw [hz2] at YP
            clear hs hz hz2
            go_upto_region 8 with fail
            go_quiet ((first | (go_at_call 66; (with_reducible exact Calls.quiet_of (YX.out _))) | (go_at_call 66; (with_reducible exact Calls.quiet_of (YP.out _)))))
            have kS := kS.drewN nq
            have k0 := k0.drewN nq
            have hB := hB.drewN nq
            have HD := keepD HD ((Turns.refl (· = s) wr).drewN nq)
            have cb : (wr.drewN nq).cell? ⟨w.heap.size, 0, none⟩ = some (.pointer (some ⟨b, 0, none⟩)) := cb
            generalize wr.drewN nq = wr2 at *
            clear cu cp YX YP cs1
            obtain ⟨ro, rc, rout, rE⟩ := rot_ready HE2.out HC.out
            have HO7 := Lib.hid (fun k (hk : k ∉ ι) => (rout k hk).trans (HO.out k hk))
            have HC7 := Lib.hid rc
            have HE7 := Lib.hid rE
            have xr := rotate_ok b s n st2 x wr2 kS hn ro
            clear rout rc rE ro
            go_wp2_with fail
            refine xr.mono ?_
            rintro e W7 ⟨rfl, kS7, kT⟩
            have k0 := k0.turns kT (by exact fun e => hne.2.2 e.symm)
            have hB := hB.trans kT
            have HD := keepD HD kT
            have kS := kS7
            have cb := k0.cell 0
            simp at cb
            clear xr kT kS7
            obtain ⟨ro, rc, rout, rE⟩ := rot_ready HE7.out HC7.out
            have HO9 := Lib.hid (fun k (hk : k ∉ ι) => (rout k hk).trans (HO7.out k hk))
            have HC9 := Lib.hid rc
            have HE9 := Lib.hid rE
            have xr := rotate_ok b s n (rotateF st2 x) x _ kS hn ro
            clear rout rc rE ro
            go_wp2_with fail
            refine xr.mono ?_
            rintro e W9 ⟨rfl, kS9, kT⟩
            have k09 := k0.turns kT (by exact fun e => hne.2.2 e.symm)
            have hB9 := hB.trans kT
            have HD9 := keepD HD kT
            clear xr kT
            go_wp2_with fail
            go_roundg c2.length
            case measure => simp; omega
            case rel => exact ⟨_, _, rfl, kS9, HC9, HO9, HE9, k09, hB9, HD9⟩
  case stop =>
    rintro D c pre W _ _ h _
    exact h.elim
end Go.Proofs.Ytgichkjomhnehaa
