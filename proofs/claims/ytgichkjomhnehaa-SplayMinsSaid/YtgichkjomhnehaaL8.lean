/-
  SplayCopies, walked.
-/
import Derived.Test.YtgichkjomhnehaaL2
set_option linter.unusedVariables false
set_option linter.unusedSimpArgs false
namespace Go.Proofs.Ytgichkjomhnehaa
open Go.RowKit Go.Shelf

def playM (P : PS) (z : Nat → Nat → Int) : Nat → PS
  | 0 => P
  | k + 1 => doP (playM P z k) (z k 0).toNat (z k 1).toNat (z k 2).toNat (z k 3)
theorem RowL.turnsS {w w' : World} {B : Nat} {S : Nat → Prop} {v : Value} {l : List Nat} (h : RowL w B v l) (hT : Turns S w w') (hs : ∀ k, S k → k < B) : RowL w' B v l := by
  refine ⟨h.1, h.2.imp id ?_⟩
  rintro ⟨g, cap, cur, hv, hg, hh, r⟩
  exact ⟨g, cap, cur, hv, hg, (hT.block g (Blk.lt (w := w) (t := 3) (cs := cur) hh) (fun e => by have := hs _ e; omega)).trans hh, r⟩
def Was (w : World) (gw gv : Nat) (Q : Nat → List Nat) (U : Nat → Int) (x : Nat) : Prop := (∃ cs, Blk w gw 50 cs ∧ cs.size = 40 ∧ ∀ i, i < x → ∃ v, cs[i]? = some v ∧ RowL w (gv + 1) v (Q i)) ∧ ∃ ds, Blk w gv 51 ds ∧ ds.size = 40 ∧ ∀ i, i < x → ds[i]? = some (.int .i64 (U i))
theorem Was.turns {w w' : World} {gw gv x : Nat} {Q : Nat → List Nat} {U : Nat → Int} {S : Nat → Prop} (h : Was w gw gv Q U x) (hT : Turns S w w') (hS : ∀ k, S k → k < gw) (hg : gw < gv) : Was w' gw gv Q U x := by
  obtain ⟨⟨cs, h1, h2, h3⟩, ds, h4, h5, h6⟩ := h
  refine ⟨⟨cs, h1.turns hT (fun e => by have := hS _ e; omega), h2, fun i hi => ?_⟩, ds, h4.turns hT (fun e => by have := hS _ e; omega), h5, h6⟩
  obtain ⟨v, hv, hr⟩ := h3 i hi
  exact ⟨v, hv, hr.turnsS hT (fun k e => by have := hS _ e; omega)⟩
theorem Was.below {w w' : World} {gw gv x : Nat} {Q : Nat → List Nat} {U : Nat → Int} (h : Was w gw gv Q U x) (hb : Below w.heap.size w w') (hg : gw < gv) : Was w' gw gv Q U x := h.turns (Turns.of_below hb (fun _ => False)) (fun _ e => e.elim) hg
theorem Was.room {w : World} {gw gv x y : Nat} {Q : Nat → List Nat} {U : Nat → Int} (h : Was w gw gv Q U x) (hy : y < 40) : ∃ o1 o2, w.cell? ⟨gw, y, none⟩ = some o1 ∧ w.frozen? ⟨gw, y, none⟩ = false ∧ w.cell? ⟨gv, y, none⟩ = some o2 ∧ w.frozen? ⟨gv, y, none⟩ = false := by
  obtain ⟨⟨cs, h1, h2, h3⟩, ds, h4, h5, h6⟩ := h
  exact ⟨_, _, (h1.cell y).trans (Array.getElem?_eq_getElem (by omega)), h1.frozen y, (h4.cell y).trans (Array.getElem?_eq_getElem (by omega)), h4.frozen y⟩
theorem Was.get {w : World} {gw gv x y : Nat} {Q : Nat → List Nat} {U : Nat → Int} (h : Was w gw gv Q U x) (hy : y < x) : ∃ v, w.cell? ⟨gw, y, none⟩ = some v ∧ RowL w (gv + 1) v (Q y) ∧ w.cell? ⟨gv, y, none⟩ = some (.int .i64 (U y)) := by
  obtain ⟨⟨cs, h1, h2, h3⟩, ds, h4, h5, h6⟩ := h
  obtain ⟨v, hv, hr⟩ := h3 y hy
  exact ⟨v, (h1.cell y).trans hv, hr, (h4.cell y).trans (h6 y hy)⟩
theorem put_turns (w : World) (gw gv x : Nat) (v u : Value) : Turns (fun k => k = gw ∨ k = gv) w ((w.setCell ⟨gw, x, none⟩ v).setCell ⟨gv, x, none⟩ u) := ((Turns.refl _ w).setCell (p := ⟨gw, x, none⟩) (.inr (.inl rfl)) v).setCell (p := ⟨gv, x, none⟩) (.inr (.inr rfl)) u
theorem Was.put {w : World} {gw gv x : Nat} {Q : Nat → List Nat} {U : Nat → Int} (h : Was w gw gv Q U x) (hx : x < 40) (hg : gw < gv) {v : Value} (hr : RowL w (gv + 1) v (Q x)) :
    Was ((w.setCell ⟨gw, x, none⟩ v).setCell ⟨gv, x, none⟩ (.int .i64 (U x))) gw gv Q U (x + 1) := by
  have hT := put_turns w gw gv x v (.int .i64 (U x))
  obtain ⟨⟨cs, h1, h2, h3⟩, ds, h4, h5, h6⟩ := h
  refine ⟨⟨_, (h1.set_ x v).far (by show gw ≠ gv; omega) _, by simpa using h2, fun i hi => ?_⟩, _, (h4.far (p := ⟨gw, x, none⟩) (by show gv ≠ gw; omega) v).set_ x _, by simpa using h5, fun i hi => ?_⟩
  · rw [Array.getElem?_setIfInBounds]
    by_cases e : x = i
    · subst e
      rw [if_pos rfl, if_pos (by omega)]
      exact ⟨v, rfl, hr.turnsS hT (fun k e => by rcases e with e | e <;> omega)⟩
    · rw [if_neg e]
      obtain ⟨v', hv, hr'⟩ := h3 i (by omega)
      exact ⟨v', hv, hr'.turnsS hT (fun k e => by rcases e with e | e <;> omega)⟩
  · rw [Array.getElem?_setIfInBounds]
    by_cases e : x = i
    · subst e
      rw [if_pos rfl, if_pos (by omega)]
    · rw [if_neg e]
      exact h6 i (by omega)
theorem was_same {w w' : World} {gw gv x s : Nat} {Q : Nat → List Nat} {U : Nat → Int} {v u : Value} (h : Was w' gw gv Q U 40) (e1 : w.cell? ⟨gw, x, none⟩ = some v) (e2 : w.cell? ⟨gv, x, none⟩ = some u) (hT : Turns (· = s) w w') (hs : s < gw) (hg : gw < gv) (hl : gv < w.heap.size) :
    w'.cell? ⟨gw, x, none⟩ = some v ∧ w'.cell? ⟨gv, x, none⟩ = some u ∧ gw < w'.heap.size ∧ gv < w'.heap.size := by
  have hz := hT.size
  refine ⟨?_, ?_, by omega, by omega⟩
  · rw [← e1]; simp only [World.cell?]; rw [hT.block gw (by omega) (by omega)]
  · rw [← e2]; simp only [World.cell?]; rw [hT.block gv hl (by omega)]
set_option maxRecDepth 100000 in
set_option maxHeartbeats 2500000 in
theorem copies_walk (n c : Nat) (A : Option Addr) (z : Nat → Nat → Int) (n1 c1 : Nat) (A1 : Option Addr) (z1 : Nat → Nat → Int) (w : World) (ha : ArgS [.u8, .u8, .u8, .i64] w A n c z) (ha1 : ArgS [.u8, .u8, .u8, .i64] w A1 n1 c1 z1) :
    Calls Try.prog 8 #[.slice A n c, .slice A1 n1 c1] w fun e w' => e = .returned (.bool true) ∧ Below w.heap.size w w' := by
  have x0 := played_ok n c A z w ha
  have hn63 := ha1.2.1
  have hnc := ha1.1
  go_enter Try.func8, Try.ntmps8
  go_wp2_with fail
  refine x0.mono ?_
  rintro e w1 ⟨b, s, rfl, h, hb, hs, q⟩
  clear x0
  generalize playP z (min n 200) = P at *
  have hlt1 := h.lt
  have x1 := copy_ok b s 40 _ _ w1 h
  go_wp2_with fail
  refine x1.mono ?_
  rintro e w2 ⟨b', s', rfl, h', hb', hs', ba⟩
  have q := below_end q q.size ba
  have h := h.below ba
  have hlt2 := h'.lt
  have hws : w.heap.size ≤ w2.heap.size := q.size
  have hws1 : w.heap.size ≤ s' := by have := (by assumption : Below w.heap.size w w2).size; omega
  clear x1
  have qn := below_new2 w2 (.cells #[.slice none 0 0, .slice none 0 0, .slice none 0 0, .slice none 0 0, .slice none 0 0, .slice none 0 0, .slice none 0 0, .slice none 0 0, .slice none 0 0, .slice none 0 0, .slice none 0 0, .slice none 0 0, .slice none 0 0, .slice none 0 0, .slice none 0 0, .slice none 0 0, .slice none 0 0, .slice none 0 0, .slice none 0 0, .slice none 0 0, .slice none 0 0, .slice none 0 0, .slice none 0 0, .slice none 0 0, .slice none 0 0, .slice none 0 0, .slice none 0 0, .slice none 0 0, .slice none 0 0, .slice none 0 0, .slice none 0 0, .slice none 0 0, .slice none 0 0, .slice none 0 0, .slice none 0 0, .slice none 0 0, .slice none 0 0, .slice none 0 0, .slice none 0 0, .slice none 0 0] 50) (.cells #[.int .i64 0, .int .i64 0, .int .i64 0, .int .i64 0, .int .i64 0, .int .i64 0, .int .i64 0, .int .i64 0, .int .i64 0, .int .i64 0, .int .i64 0, .int .i64 0, .int .i64 0, .int .i64 0, .int .i64 0, .int .i64 0, .int .i64 0, .int .i64 0, .int .i64 0, .int .i64 0, .int .i64 0, .int .i64 0, .int .i64 0, .int .i64 0, .int .i64 0, .int .i64 0, .int .i64 0, .int .i64 0, .int .i64 0, .int .i64 0, .int .i64 0, .int .i64 0, .int .i64 0, .int .i64 0, .int .i64 0, .int .i64 0, .int .i64 0, .int .i64 0, .int .i64 0, .int .i64 0] 51)
  have kw : Blk ((w2.alloc (.cells #[.slice none 0 0, .slice none 0 0, .slice none 0 0, .slice none 0 0, .slice none 0 0, .slice none 0 0, .slice none 0 0, .slice none 0 0, .slice none 0 0, .slice none 0 0, .slice none 0 0, .slice none 0 0, .slice none 0 0, .slice none 0 0, .slice none 0 0, .slice none 0 0, .slice none 0 0, .slice none 0 0, .slice none 0 0, .slice none 0 0, .slice none 0 0, .slice none 0 0, .slice none 0 0, .slice none 0 0, .slice none 0 0, .slice none 0 0, .slice none 0 0, .slice none 0 0, .slice none 0 0, .slice none 0 0, .slice none 0 0, .slice none 0 0, .slice none 0 0, .slice none 0 0, .slice none 0 0, .slice none 0 0, .slice none 0 0, .slice none 0 0, .slice none 0 0, .slice none 0 0] 50)).alloc (.cells #[.int .i64 0, .int .i64 0, .int .i64 0, .int .i64 0, .int .i64 0, .int .i64 0, .int .i64 0, .int .i64 0, .int .i64 0, .int .i64 0, .int .i64 0, .int .i64 0, .int .i64 0, .int .i64 0, .int .i64 0, .int .i64 0, .int .i64 0, .int .i64 0, .int .i64 0, .int .i64 0, .int .i64 0, .int .i64 0, .int .i64 0, .int .i64 0, .int .i64 0, .int .i64 0, .int .i64 0, .int .i64 0, .int .i64 0, .int .i64 0, .int .i64 0, .int .i64 0, .int .i64 0, .int .i64 0, .int .i64 0, .int .i64 0, .int .i64 0, .int .i64 0, .int .i64 0, .int .i64 0] 51)) w2.heap.size 50 #[.slice none 0 0, .slice none 0 0, .slice none 0 0, .slice none 0 0, .slice none 0 0, .slice none 0 0, .slice none 0 0, .slice none 0 0, .slice none 0 0, .slice none 0 0, .slice none 0 0, .slice none 0 0, .slice none 0 0, .slice none 0 0, .slice none 0 0, .slice none 0 0, .slice none 0 0, .slice none 0 0, .slice none 0 0, .slice none 0 0, .slice none 0 0, .slice none 0 0, .slice none 0 0, .slice none 0 0, .slice none 0 0, .slice none 0 0, .slice none 0 0, .slice none 0 0, .slice none 0 0, .slice none 0 0, .slice none 0 0, .slice none 0 0, .slice none 0 0, .slice none 0 0, .slice none 0 0, .slice none 0 0, .slice none 0 0, .slice none 0 0, .slice none 0 0, .slice none 0 0] := (Blk.new w2 50 _).alloc _
  have kv : Blk ((w2.alloc (.cells #[.slice none 0 0, .slice none 0 0, .slice none 0 0, .slice none 0 0, .slice none 0 0, .slice none 0 0, .slice none 0 0, .slice none 0 0, .slice none 0 0, .slice none 0 0, .slice none 0 0, .slice none 0 0, .slice none 0 0, .slice none 0 0, .slice none 0 0, .slice none 0 0, .slice none 0 0, .slice none 0 0, .slice none 0 0, .slice none 0 0, .slice none 0 0, .slice none 0 0, .slice none 0 0, .slice none 0 0, .slice none 0 0, .slice none 0 0, .slice none 0 0, .slice none 0 0, .slice none 0 0, .slice none 0 0, .slice none 0 0, .slice none 0 0, .slice none 0 0, .slice none 0 0, .slice none 0 0, .slice none 0 0, .slice none 0 0, .slice none 0 0, .slice none 0 0, .slice none 0 0] 50)).alloc (.cells #[.int .i64 0, .int .i64 0, .int .i64 0, .int .i64 0, .int .i64 0, .int .i64 0, .int .i64 0, .int .i64 0, .int .i64 0, .int .i64 0, .int .i64 0, .int .i64 0, .int .i64 0, .int .i64 0, .int .i64 0, .int .i64 0, .int .i64 0, .int .i64 0, .int .i64 0, .int .i64 0, .int .i64 0, .int .i64 0, .int .i64 0, .int .i64 0, .int .i64 0, .int .i64 0, .int .i64 0, .int .i64 0, .int .i64 0, .int .i64 0, .int .i64 0, .int .i64 0, .int .i64 0, .int .i64 0, .int .i64 0, .int .i64 0, .int .i64 0, .int .i64 0, .int .i64 0, .int .i64 0] 51)) (w2.heap.size + 1) 51 #[.int .i64 0, .int .i64 0, .int .i64 0, .int .i64 0, .int .i64 0, .int .i64 0, .int .i64 0, .int .i64 0, .int .i64 0, .int .i64 0, .int .i64 0, .int .i64 0, .int .i64 0, .int .i64 0, .int .i64 0, .int .i64 0, .int .i64 0, .int .i64 0, .int .i64 0, .int .i64 0, .int .i64 0, .int .i64 0, .int .i64 0, .int .i64 0, .int .i64 0, .int .i64 0, .int .i64 0, .int .i64 0, .int .i64 0, .int .i64 0, .int .i64 0, .int .i64 0, .int .i64 0, .int .i64 0, .int .i64 0, .int .i64 0, .int .i64 0, .int .i64 0, .int .i64 0, .int .i64 0] := Blk.new2 w2 _ 51 _
  go_upto_region 9 with fail
  generalize ((w2.alloc (.cells #[.slice none 0 0, .slice none 0 0, .slice none 0 0, .slice none 0 0, .slice none 0 0, .slice none 0 0, .slice none 0 0, .slice none 0 0, .slice none 0 0, .slice none 0 0, .slice none 0 0, .slice none 0 0, .slice none 0 0, .slice none 0 0, .slice none 0 0, .slice none 0 0, .slice none 0 0, .slice none 0 0, .slice none 0 0, .slice none 0 0, .slice none 0 0, .slice none 0 0, .slice none 0 0, .slice none 0 0, .slice none 0 0, .slice none 0 0, .slice none 0 0, .slice none 0 0, .slice none 0 0, .slice none 0 0, .slice none 0 0, .slice none 0 0, .slice none 0 0, .slice none 0 0, .slice none 0 0, .slice none 0 0, .slice none 0 0, .slice none 0 0, .slice none 0 0, .slice none 0 0] 50)).alloc (.cells #[.int .i64 0, .int .i64 0, .int .i64 0, .int .i64 0, .int .i64 0, .int .i64 0, .int .i64 0, .int .i64 0, .int .i64 0, .int .i64 0, .int .i64 0, .int .i64 0, .int .i64 0, .int .i64 0, .int .i64 0, .int .i64 0, .int .i64 0, .int .i64 0, .int .i64 0, .int .i64 0, .int .i64 0, .int .i64 0, .int .i64 0, .int .i64 0, .int .i64 0, .int .i64 0, .int .i64 0, .int .i64 0, .int .i64 0, .int .i64 0, .int .i64 0, .int .i64 0, .int .i64 0, .int .i64 0, .int .i64 0, .int .i64 0, .int .i64 0, .int .i64 0, .int .i64 0, .int .i64 0] 51)) = W0 at *
  have q := below_end q hws qn
  have h := h.below qn
  have h' := h'.below qn
  have hw : Was W0 w2.heap.size (w2.heap.size + 1) P.1 P.2 0 := ⟨⟨_, kw, rfl, fun i hi => by omega⟩, _, kv, rfl, fun i hi => by omega⟩
  clear kw kv qn
  obtain ⟨gw, hgw⟩ : ∃ gw, w2.heap.size = gw := ⟨_, rfl⟩
  rw [hgw] at hw hlt2 hws ⊢
  obtain ⟨gv, hgv⟩ : ∃ gv, gw + 1 = gv := ⟨_, rfl⟩
  rw [hgv] at hw ⊢
  have hg : gw < gv := by omega
  have hsw : s < gw := by have := ba.size; omega
  have hbw : b < gw := by have := ba.size; omega
  clear hgw hgv ba
  go_wp2_with fail
  go_loopw [9] (fun vx wr => ∃ x : Nat, vx = .int .i64 x ∧ x ≤ 40 ∧ SQ wr b s 40 P.1 P.2 ∧ SQ wr b' s' 40 P.1 P.2 ∧ Was wr gw gv P.1 P.2 x ∧ Below w.heap.size w wr ∧ gv < wr.heap.size) (fun vx _ => 40 - (intOf vx).toNat)
  case atStart =>
    refine ⟨0, rfl, Nat.zero_le _, h, h', hw, q, ?_⟩
    obtain ⟨_, ds, kv, _⟩ := hw
    exact kv.lt
  case round =>
    clear h h' hw q
    obtain ⟨x, rfl, hx, h, h', hw, q, hgl⟩ := hrel
    by_cases hlt : x < 40
    · have hx40 : (x : Int) < 40 := by omega
      have hx0 : (0 : Int) ≤ (x : Int) := by omega
      have hD : SQ wr.drew b s 40 P.1 P.2 := h
      have hD' : SQ wr.drew b' s' 40 P.1 P.2 := h'
      have hwd : Was wr.drew gw gv P.1 P.2 x := hw
      have qd := q.drew
      have hgd : gv < wr.drew.heap.size := hgl
      have x1 := list_ok b s 40 _ _ x wr.drew hD hlt
      obtain ⟨u, hu⟩ : ∃ u, P.2 x = u := ⟨_, rfl⟩
      have HU := Lib.hid hu
      have HLX := Lib.hid (h.len hlt)
      have HPX := Lib.hid (List.length_pos_of_mem (h.abs hlt).1)
      have hne1 : gw ≠ gv := by omega
      have hne2 : gv ≠ gw := by omega
      clear h h' hw q hgl hu
      go_upto_region 12 with fail
      go_region_law (first
        | (go_simp; go_at_call 29; (with_reducible refine x2.mono ?_); rintro e w9 ⟨rfl, rfl⟩)
        | (go_simp; go_at_call 14; (with_reducible refine x1.mono ?_); rintro e w3 ⟨v3, rfl, r3, h3, hT3⟩; obtain ⟨g3, c3, rfl⟩ := r3.form HLX.out.2 HPX.out; have x2 := value_ok b s 40 _ _ x w3 h3 hlt; rw [HU.out] at x2; have hw3 := hwd.turns hT3 (fun k e => by omega) hg; obtain ⟨o1, o2, d1, d2, d3, d4⟩ := hw3.room hlt))
      all_goals
        have h3' := hD'.turns hT3 (by omega) (by omega)
        have q3 := below_step qd hs hT3
        have hsz3 := hT3.size
        have hTp := put_turns w3 gw gv x (.slice (some ⟨g3, 0, none⟩) (P.1 x).length c3) (.int .i64 u)
        have hwp := hw3.put hlt hg (r3.mono hgd)
        rw [HU.out] at hwp
        have hp := h3.turns hTp (by omega) (by omega)
        have hp' := h3'.turns hTp (by omega) (by omega)
        have qp := below_turns q3 q3.size hTp (fun k hk e => by rcases e with e | e <;> omega)
        have hgp : gv < ((w3.setCell ⟨gw, x, none⟩ (.slice (some ⟨g3, 0, none⟩) (P.1 x).length c3)).setCell ⟨gv, x, none⟩ (.int .i64 u)).heap.size := by have := hTp.size; omega
        go_wp2_with fail
        go_roundw
        case rel => exact ⟨x + 1, by simp, by omega, hp, hp', hwp, qp, hgp⟩
        case measure => simp [intOf]; omega
    · have hx40 : ¬ (x : Int) < 40 := by omega
      obtain rfl : x = 40 := by omega
      go_wp2_with fail
      go_loopw [10] (fun vk wr => ∃ k : Nat, vk = .int .i64 k ∧ k ≤ min n1 50 ∧ SQ wr b s 40 P.1 P.2 ∧ SQ wr b' s' 40 (playM P z1 k).1 (playM P z1 k).2 ∧ Was wr gw gv P.1 P.2 40 ∧ Below w.heap.size w wr) (fun vk _ => 50 - (intOf vk).toNat)
      case atStart => exact ⟨0, rfl, Nat.zero_le _, h, h', hw, q⟩
      case round =>
        clear h h' hw q hgl
        obtain ⟨k, rfl, hk, h, h', hw, q⟩ := hrel
        by_cases hlt : k < min n1 50
        · have ha2 := ha1.below q
          obtain ⟨g, o, D, x, y, V, rfl, c0, c1, c2, c3, bD, bx, bY, bV, eD, ex, ey, eV⟩ := act_facts rfl ha2 (i := k) (by omega)
          have hkn : (k : Int) < (n1 : Int) := by omega
          have hk2 : (k : Int) < 50 := by omega
          have x1 := do_ok b' s' (playM P z1 k) D x y V wr h' bD bx bY bV
          have HE := Lib.hid (show playM P z1 (k + 1) = doP (playM P z1 k) D x y V by rw [← eD, ← ex, ← ey, ← eV]; rfl)
          clear ha2 eD ex ey eV h'
          go_wp2_with fail
          refine x1.mono ?_
          rintro e w2 ⟨rfl, h2, hT⟩
          have q := below_step q hws1 hT
          have h := h.turns hT (by omega) (by omega)
          have hw := hw.turns hT (fun k e => by omega) hg
          rw [← HE.out] at h2
          clear x1 hT c0 c1 c2 c3 HE
          go_wp2_with fail
          go_roundw
          case rel => exact ⟨k + 1, by simp, by omega, h, h2, hw, q⟩
          case measure => simp [intOf]; omega
        · have hkm : k = min n1 50 := by omega
          have hall : ((k : Int) < (n1 : Int) ∧ ¬ (k : Int) < 50) ∨ ¬ (k : Int) < (n1 : Int) := by omega
          subst hkm
          have HKM := Lib.hid hall
          generalize hmm : min n1 50 = m at *
          have HMM := Lib.hid hmm
          clear hmm hall
          rcases HKM.out with ⟨j1, j2⟩ | j1
          all_goals
            clear HKM
            go_wp2_with fail
            go_loopw [11] (fun vx wr => ∃ x : Nat, vx = .int .i64 x ∧ x ≤ 40 ∧ SQ wr b s 40 P.1 P.2 ∧ SQ wr b' s' 40 (playM P z1 m).1 (playM P z1 m).2 ∧ Was wr gw gv P.1 P.2 40 ∧ Below w.heap.size w wr) (fun vx _ => 40 - (intOf vx).toNat)
            case atStart => exact ⟨0, rfl, Nat.zero_le _, h, h', hw, q⟩
            case round =>
              clear h h' hw q
              obtain ⟨x, rfl, hx, h, h', hw, q⟩ := hrel
              by_cases hlt : x < 40
              · have hx40 : (x : Int) < 40 := by omega
                have hx0 : (0 : Int) ≤ (x : Int) := by omega
                have HLX := Lib.hid (h.len hlt)
                have HPX := Lib.hid (List.length_pos_of_mem (h.abs hlt).1)
                have hD : SQ wr.drew b s 40 P.1 P.2 := h
                have hD' : SQ wr.drew b' s' 40 (playM P z1 m).1 (playM P z1 m).2 := h'
                have hwd : Was wr.drew gw gv P.1 P.2 40 := hw
                have qd := q.drew
                obtain ⟨vw, e1, er, e2⟩ := hwd.get hlt
                obtain ⟨g7, c7, rfl⟩ := er.form HLX.out.2 HPX.out
                obtain ⟨u, hu⟩ : ∃ u, P.2 x = u := ⟨_, rfl⟩
                rw [hu] at e2
                have HU := Lib.hid hu
                have hne : (u != u) = false := bne_self_eq_false u
                have x1 := list_ok b s 40 _ _ x wr.drew hD hlt
                have HCELL := Lib.hid (show ∀ w6, Was w6 gw gv P.1 P.2 40 → RowL w6 (gv + 1) (.slice (some ⟨g7, 0, none⟩) (P.1 x).length c7) (P.1 x) → True from fun _ _ _ => trivial)
                have hgE := er
                clear h h' hw q hu HCELL
                go_upto_region 21 with fail
                go_region_held3 (fun w' => w'.cell? ⟨gw, x, none⟩ = some (.slice (some ⟨g7, 0, none⟩) (P.1 x).length c7) ∧ w'.cell? ⟨gv, x, none⟩ = some (.int .i64 u)) (exact ⟨by assumption, by assumption⟩) (first
                  | (go_at_call 29; (with_reducible refine x3.mono ?_); rintro e w9 ⟨rfl, rfl⟩)
                  | (go_at_call 17; (with_reducible refine x2.mono ?_); rintro e w4 ⟨rfl, b4⟩; have h4 := h3.below b4; have h4' := h3'.below b4; have hw4 := hw3.below b4 hg; have q4 := below_end q3 q3.size b4; have f1 := (b4.cell (p := ⟨gw, x, none⟩) hlw).trans d1; have f2 := (b4.cell (p := ⟨gv, x, none⟩) hlv).trans d2; have x3 := value_ok b s 40 _ _ x w4 h4 hlt; rw [HU.out] at x3)
                  | (go_at_call 14; (with_reducible refine x1.mono ?_); rintro e w3 ⟨v3, rfl, r3, h3, hT3⟩; have h3' := hD'.turns hT3 (by omega) (by omega); have hw3 := hwd.turns hT3 (fun k e => by omega) hg; have q3 := below_step qd hs hT3; have rr := er.turnsS hT3 (fun k e => by omega); obtain ⟨d1, d2, hlw, hlv⟩ := was_same hw3 e1 e2 hT3 (by omega) hg (by obtain ⟨_, ds, kv, _⟩ := hwd; exact kv.lt); obtain ⟨A1', A2', c1', c2', rfl, hv2, x2⟩ := rows_same r3 rr HLX.out.2 (by have := HLX.out.1; omega); cases hv2))
                go_wp2_with fail
                go_roundw
                case rel => exact ⟨x + 1, by simp, by omega, h4, h4', hw4, q4⟩
                case measure => simp [intOf]; omega
              · have hx40 : ¬ (x : Int) < 40 := by omega
                go_wp2_with fail
                go_loopw [12] (fun vk wr => ∃ k : Nat, vk = .int .i64 k ∧ k ≤ m ∧ SQ wr b s 40 (playM P z1 k).1 (playM P z1 k).2 ∧ SQ wr b' s' 40 (playM P z1 m).1 (playM P z1 m).2 ∧ Below w.heap.size w wr) (fun vk _ => 50 - (intOf vk).toNat)
                case atStart => exact ⟨0, rfl, Nat.zero_le _, h, h', q⟩
                case round =>
                  clear h h' hw q
                  obtain ⟨k, rfl, hk, h, h', q⟩ := hrel
                  by_cases hlt : k < m
                  · have hmm := HMM.out
                    have ha2 := ha1.below q
                    obtain ⟨g, o, D, x, y, V, rfl, c0, c1, c2, c3, bD, bx, bY, bV, eD, ex, ey, eV⟩ := act_facts rfl ha2 (i := k) (by omega)
                    have hkn : (k : Int) < (n1 : Int) := by omega
                    have hk2 : (k : Int) < 50 := by omega
                    have x1 := do_ok b s (playM P z1 k) D x y V wr h bD bx bY bV
                    have HE := Lib.hid (show playM P z1 (k + 1) = doP (playM P z1 k) D x y V by rw [← eD, ← ex, ← ey, ← eV]; rfl)
                    clear ha2 eD ex ey eV h hmm
                    go_wp2_with fail
                    refine x1.mono ?_
                    rintro e w2 ⟨rfl, h2, hT⟩
                    have q := below_step q hs hT
                    have h' := h'.turns hT (by omega) (by omega)
                    rw [← HE.out] at h2
                    clear x1 hT c0 c1 c2 c3 HE
                    go_wp2_with fail
                    go_roundw
                    case rel => exact ⟨k + 1, by simp, by omega, h2, h', q⟩
                    case measure => simp [intOf]; omega
                  · obtain rfl : k = m := by omega
                    first | have j1' := j2 | have j1' := j1
                    go_wp2_with fail
                    generalize playM P z1 k = R at *
                    go_loopw [13] (fun vx wr => ∃ i : Nat, vx = .int .i64 i ∧ i ≤ 40 ∧ SQ wr b s 40 R.1 R.2 ∧ SQ wr b' s' 40 R.1 R.2 ∧ Below w.heap.size w wr) (fun vx _ => 40 - (intOf vx).toNat)
                    case atStart => exact ⟨0, rfl, Nat.zero_le _, h, h', q⟩
                    case round =>
                      clear h h' q
                      obtain ⟨i, rfl, hi, h, h', q⟩ := hrel
                      by_cases hlt : i < 40
                      · have hi40 : (i : Int) < 40 := by omega
                        have hlen := Lib.hid (h.len hlt)
                        have hsB := h.lt.2
                        have hsB' := h'.lt.2
                        obtain ⟨u, hu⟩ : ∃ u, R.2 i = u := ⟨_, rfl⟩
                        have x3 := list_ok b s 40 _ _ i wr h hlt
                        have hne : (u != u) = false := bne_self_eq_false u
                        have HU := Lib.hid hu
                        clear hu
                        go_wp2_with fail
                        (with_reducible refine x3.mono ?_); rintro e w3 ⟨v3, rfl, r3, h3, hT3⟩; have q3 := below_step q hs hT3; have h3' := h'.turns hT3 (by omega) (by omega); have x4 := list_ok b' s' 40 _ _ i w3 h3' hlt
                        go_wp2_with fail
                        (with_reducible refine x4.mono ?_); rintro e w4 ⟨v4, rfl, r4, h4', hT4⟩; have q4 := below_step q3 hws1 hT4; have rr4 := r3.turns hT4 (by omega); have h4 := h3.turns hT4 (by omega) (by omega); obtain ⟨A1', A2', c1', c2', rfl, rfl, x5⟩ := rows_same rr4 r4 hlen.out.2 (by have := hlen.out.1; omega); clear r3 r4 rr4
                        go_wp2_with fail
                        (with_reducible refine x5.mono ?_); rintro e w5 ⟨rfl, b5⟩; have h5 := h4.below b5; have h5' := h4'.below b5; have q5 := below_end q4 q4.size b5
                        have v1 := value_ok b s 40 _ _ i w5 h5 hlt
                        have v2 := value_ok b' s' 40 _ _ i w5 h5' hlt
                        rw [HU.out] at v1 v2
                        go_wp2_with fail
                        refine v1.mono ?_
                        rintro e w9 ⟨rfl, rfl⟩
                        go_wp2_with fail
                        refine v2.mono ?_
                        rintro e w9 ⟨rfl, rfl⟩
                        go_wp2_with fail
                        go_roundw
                        case rel => exact ⟨i + 1, by simp, by omega, h5, h5', q5⟩
                        case measure => simp [intOf]; omega
                      · have hi40 : ¬ (i : Int) < 40 := by omega
                        have x1 := works_ok wr
                        go_wp2_with fail
                        refine x1.mono ?_
                        rintro e w9 ⟨rfl, b9⟩
                        have q := below_end q q.size b9
                        go_wp2_with fail
                        go_ret
                        exact ⟨rfl, q⟩
end Go.Proofs.Ytgichkjomhnehaa
