/-
  lift, at.
-/
import Derived.Test.YtgichkjomhnehaaW9
set_option linter.unusedVariables false
set_option linter.unusedSimpArgs false
namespace Go.Proofs.Ytgichkjomhnehaa
open Go.RowKit Go.Shelf

/-- y is the root of its tree, all else as it was -/
def Top (w' : World) (b s n : Nat) (st : Nat → Nd) (V : Nat → Int) (y : Nat) (σ ι : List Nat) : Prop :=
  ∃ st', SP w' b s n st' ∧ Ctx V st' y [] σ ι ∧ (∀ k, k ∉ ι → st' k = st k) ∧ Env V n st' ι
set_option maxRecDepth 100000 in
theorem lift_ok (b s n : Nat) (st : Nat → Nd) (y : Nat) (X : Int) (V : Nat → Int) (t : T) (σ ι : List Nat) (w : World) (h : SP w b s n st) (hn : n ≤ 65536) (hW : Whole V st t σ ι) (hE : Env V n st ι) (hy : y ∈ ι) (hX : X + 1 = (y : Int)) :
    Calls Try.prog 39 #[.pointer (some ⟨b, 0, none⟩), .int .i64 X] w fun e w' => e = .returned (.pointer (some ⟨s, y * 9, none⟩)) ∧ Top w' b s n st V y σ ι ∧ Turns (· = s) w w' := by
  have x0 := splay_ok b s n st y V t σ ι w h hn hW hE hy
  have hyn := (hE.mem y hy)
  rw [← hX] at x0
  have hX0 : 0 ≤ X + 1 := by omega
  have hX1 : (X + 1).toNat = y := by omega
  have hX2 : X + 1 < (n : Int) + 1 := by omega
  have HX := Lib.hid hX
  clear hX hW hE hy hyn
  go_enter Try.func39, Try.ntmps39
  go_wp2_with fail
  refine x0.mono ?_
  rintro e w1 ⟨rfl, ⟨st', k1, k2, k3, k4⟩, hT⟩
  obtain ⟨c, c1, c2, c3⟩ := k1.cell1
  have HK := Lib.hid (And.intro k1 (And.intro k2 (And.intro k3 k4)))
  clear x0 k1 k2 k3 k4 h
  go_wp2_with fail
  go_ret
  obtain ⟨k1, k2, k3, k4⟩ := HK.out
  exact ⟨rfl, ⟨st', k1, k2, k3, k4⟩, hT⟩
theorem Env.push {V : Nat → Int} {n : Nat} {st : Nat → Nd} {ι : List Nat} (h : Env V n st ι) {j : Nat} (ho : ∀ k, k ∉ ι → pushF st j k = st k) : Env V n (pushF st j) ι :=
  ⟨h.fit, h.nd, h.mem, h.len, (ho 0 h.zero_mem).trans h.zero, h.kb.push j⟩
set_option maxRecDepth 100000 in
set_option maxHeartbeats 2000000 in
theorem at_ok (b s n : Nat) (st : Nat → Nd) (r k y : Nat) (V : Nat → Int) (t : T) (σ ι : List Nat) (w : World) (h : SP w b s n st) (hn : n ≤ 65536) (hW : Whole V st t σ ι) (hE : Env V n st ι) (hr : t.root = r) (hy : σ[k]? = some y) :
    Calls Try.prog 43 #[.pointer (some ⟨b, 0, none⟩), .int .i64 r, .int .i64 k] w fun e w' => e = .returned (.int .i64 y) ∧ Top w' b s n st V y σ ι ∧ Turns (· = s) w w' := by
  subst hr
  have hS0 := Seek.start hW hy
  have hkl : k < 65536 := by
    have := (List.getElem?_eq_some_iff.1 hy).1
    have h2 := (T.seq_perm t).length_eq
    rw [hW.seq, hW.ids.length_eq] at h2
    have := hE.len
    omega
  have HS0 := Lib.hid hS0
  have HE0 := Lib.hid hE
  obtain ⟨m0, hm0⟩ : ∃ m0, t.ids.length = m0 := ⟨_, rfl⟩
  rw [hm0] at HS0
  generalize t.root = r at *
  clear hS0 hW hE hy hm0
  go_enter Try.func43, Try.ntmps43
  go_upto_region 1 with fail
  go_loopg [1, 2, 7] m0 (fun m vi vk _ wr => ∃ (cur kk : Nat) (st2 : Nat → Nd), vi = .int .i64 cur ∧ vk = .int .i64 kk ∧ kk < 65536 ∧ SP wr b s n st2 ∧ Hid (Seek V st2 cur kk m y σ ι) ∧ Hid (∀ k, k ∉ ι → st2 k = st k) ∧ Hid (Env V n st2 ι) ∧ Turns (· = s) w wr)
  case atStart => exact ⟨r, k, st, rfl, rfl, hkl, h, HS0, Lib.hid (fun k _ => rfl), HE0, Turns.refl _ _⟩
  case round =>
    clear h HS0 HE0 hkl
    obtain ⟨cur, kk, st2, rfl, rfl, hkk, kS, HS, HO, HE, hT⟩ := hrel
    have hp := HS.out.pos
    have hcn := (HE.out.mem cur hp.2.1).2
    have xp := push_ok b s n st2 cur wr kS hn hcn (HE.out.kb cur).1 (HE.out.kb cur).2
    obtain ⟨s1, s2, s3, s4, s5, s6⟩ := HS.out.step HE.out.nd HE.out.zero_mem (by rw [HE.out.zero]; rfl)
    have HE3 := Lib.hid (HE.out.push s1)
    have HO3 := Lib.hid (fun k (hk : k ∉ ι) => (s1 k hk).trans (HO.out k hk))
    have hlm : (pushF st2 cur (pushF st2 cur cur).k0).size ≤ 65536 := by
      have := HS.out
      obtain ⟨c', t', hw', _, _, hl', _⟩ := this
      have h9 := HE.out.len
      have h8 := (plug_ids c' t').length_eq
      rw [hw'.ids.length_eq, List.length_append] at h8
      omega
    have HST := Lib.hid (And.intro s2 (And.intro s3 s4))
    have hk0n := (HE3.out.kb cur).1
    have hcni : (cur : Int) < (n : Int) + 1 := by omega
    clear s1 s2 s3 s4 s5 s6 hp HS HE HO
    go_wp2_with fail
    refine xp.mono ?_
    rintro e W1 ⟨rfl, kS1, kT⟩
    have hT := hT.trans kT
    clear xp kS kT
    generalize pushF st2 cur = st3 at *
    have c0 : W1.cell? ⟨s, cur * 9, none⟩ = some (.int .i64 ((st3 cur).k0 : Int)) := kS1.2.cell hcn 0 (by decide)
    have c1 : W1.cell? ⟨s, cur * 9 + 1, none⟩ = some (.int .i64 ((st3 cur).k1 : Int)) := kS1.2.cell hcn 1 (by decide)
    obtain ⟨lk, hlk⟩ : ∃ lk, (st3 cur).k0 = lk := ⟨_, rfl⟩
    rw [hlk] at c0 hk0n hlm HST
    have c5 : W1.cell? ⟨s, lk * 9 + 5, none⟩ = some (.int .i64 ((st3 lk).size : Int)) := kS1.2.cell hk0n 5 (by decide)
    obtain ⟨ls, hls⟩ : ∃ ls, (st3 lk).size = ls := ⟨_, rfl⟩
    rw [hls] at c5 hlm HST
    have hlkn : (lk : Int) < (n : Int) + 1 := by omega
    obtain ⟨c9, cs, h91, h92⟩ := kS1.cell1
    clear hlk hls
    go_upto_region 2 with fail
    go_quiet (fail)
    have kS1 := kS1.drewN nq
    have hT := hT.drewN nq
    replace c0 : (W1.drewN nq).cell? ⟨s, cur * 9, none⟩ = some (.int .i64 (lk : Int)) := c0
    replace c1 : (W1.drewN nq).cell? ⟨s, cur * 9 + 1, none⟩ = some (.int .i64 ((st3 cur).k1 : Int)) := c1
    replace cs : (W1.drewN nq).cell? ⟨b, 1, none⟩ = some (.slice (some ⟨s, 0, none⟩) (n + 1) c9) := cs
    generalize W1.drewN nq = W2 at *
    clear c5
    rcases Nat.lt_trichotomy kk ls with hlt | heq | hgt
    · obtain ⟨m', hm', HS2⟩ := HST.out.2.1 hlt
      have HS2 := Lib.hid HS2
      have hne : ((kk : Int) == (ls : Int)) = false := not_eq_nat (by omega)
      have hne2 : ¬ (kk : Int) = (ls : Int) := by omega
      have hlt2 : (kk : Int) < (ls : Int) := by omega
      clear HST
      go_wp2_with fail
      go_roundg m'
      case measure => exact hm'
      case rel => exact ⟨lk, kk, st3, rfl, rfl, hkk, kS1, HS2, HO3, HE3, hT⟩
    · obtain ⟨hyc, c', HC⟩ := HST.out.1 heq
      obtain ⟨l', r', hw'⟩ := HC
      have hcm : cur ∈ ι := hw'.ids.mem_iff.1 ((plug_ids _ _).mem_iff.2 (by simp [T.ids]))
      have xs := splay_ok b s n st3 cur V _ σ ι W2 kS1 hn hw' HE3.out hcm
      have HYC := Lib.hid hyc
      subst heq
      clear HST hyc hw'
      go_wp2_with fail
      refine xs.mono ?_
      rintro e W3 ⟨rfl, ⟨st', k1, k2, k3, k4⟩, hT2⟩
      have hT := hT.trans hT2
      have HK := Lib.hid (And.intro k1 (And.intro k2 (And.intro k3 k4)))
      clear xs k1 k2 k3 k4 kS1 hT2
      go_wp2_with fail
      go_ret
      obtain ⟨k1, k2, k3, k4⟩ := HK.out
      rw [HYC.out]
      exact ⟨rfl, ⟨st', k1, k2, fun k hk => (k3 k hk).trans (HO3.out k hk), k4⟩, hT⟩
    · obtain ⟨m', hm', HS2⟩ := HST.out.2.2 hgt
      have HS2 := Lib.hid HS2
      have hne : ((kk : Int) == (ls : Int)) = false := not_eq_nat (by omega)
      have hne2 : ¬ (kk : Int) = (ls : Int) := by omega
      have hlt2 : ¬ (kk : Int) < (ls : Int) := by omega
      have hge2 : (ls : Int) < (kk : Int) := by omega
      clear HST
      go_wp2_with fail
      go_roundg m'
      case measure => exact hm'
      case rel => exact ⟨(st3 cur).k1, kk - (ls + 1), st3, rfl, by show Value.int _ _ = .int _ _; congr 1; omega, by omega, kS1, HS2, HO3, HE3, hT⟩
end Go.Proofs.Ytgichkjomhnehaa
