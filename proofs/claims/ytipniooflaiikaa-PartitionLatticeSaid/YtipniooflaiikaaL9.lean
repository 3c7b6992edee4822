/-
  PartitionLattice, walked.
-/
import Derived.Test.YtipniooflaiikaaB2
import Derived.Test.YtipniooflaiikaaA9
set_option linter.unusedVariables false
set_option linter.unusedSimpArgs false
namespace Go.Proofs.Ytipniooflaiikaa
open Go.RowKit Go.Shelf

/-- a pair of neighbours in the list of lists -/
def NextTwo (W : World) (g r i : Nat) : Prop := ∃ p q, W.cell? ⟨g, i, none⟩ = some (.slice (some ⟨p, 0, none⟩) r r) ∧ W.cell? ⟨g, i + 1, none⟩ = some (.slice (some ⟨q, 0, none⟩) r r) ∧
  ∀ k n, Calls Try.prog 29 #[.slice (some ⟨p, 0, none⟩) r r, .slice (some ⟨q, 0, none⟩) r r] (W.drewN (k + n)) fun e w' => e = .returned (.tuple #[.bool true, .int .i64 0]) ∧ ∃ m, w' = W.drewN (k + m)
theorem nextTwo {w : World} {l : List (Nat × (Nat → Nat))} {r s1 s2 g i : Nat} {a b : Nat → Nat} {cs : Array Value} (h : Rs w l r) (hr : r ≤ 1000) (h1 : (s1, a) ∈ l) (h2 : (s2, b) ∈ l) (hR : Ref a b r) (hb : Blk w g 22 cs)
    (e1 : cs[i]? = some (.slice (some ⟨s1, 0, none⟩) r r)) (e2 : cs[i + 1]? = some (.slice (some ⟨s2, 0, none⟩) r r)) : NextTwo w g r i :=
  ⟨s1, s2, (hb.cell i).trans e1, (hb.cell (i + 1)).trans e2, fun k n => (refN_yes (h.below (below_drewN (Below.refl _ _) (k + n))) hr h1 h2 hR).mono fun e w' ⟨he, m, hm⟩ => ⟨he, n + m, by rw [hm, World.drewN_drewN, Nat.add_assoc]⟩⟩

set_option maxRecDepth 100000 in
set_option maxHeartbeats 4000000 in
theorem lattice_walk (n c : Nat) (A : Option Addr) (z : Nat → Int) (m d : Nat) (B : Option Addr) (y : Nat → Int) (w : World) (ha : ArgI .u8 w A n c z) (hb : ArgI .u8 w B m d y) :
    Calls Try.prog 9 #[.slice A n c, .slice B m d] w fun e w' => e = .returned (.bool true) ∧ Below w.heap.size w w' := by
  have hn63 := ha.2.1
  have hnc := ha.1
  have hm63 := hb.2.1
  have hmd := hb.1
  by_cases hgn : 60 < n
  · have hgn : (60 : Int) < (n : Int) := by omega
    go_enter Try.func9, Try.ntmps9
    go_wp2_with fail
    refine (works_ok w).mono ?_
    rintro e w' ⟨rfl, q⟩
    go_wp2_with fail
    go_ret
    exact ⟨rfl, q⟩
  have hnn : ¬ (60 : Int) < (n : Int) := by omega
  by_cases hgm : 60 < m
  · have hgm : (60 : Int) < (m : Int) := by omega
    go_enter Try.func9, Try.ntmps9
    go_wp2_with fail
    refine (works_ok w).mono ?_
    rintro e w' ⟨rfl, q⟩
    go_wp2_with fail
    go_ret
    exact ⟨rfl, q⟩
  have hnm : ¬ (60 : Int) < (m : Int) := by omega
  have x0 := labels_ok n m c d A B z y w ha hb (by omega)
  have x1 := fun w1 (hv : Below w.heap.size w w1) => labels_ok m n d c B A y z w1 (hb.below hv) (ha.below hv) (by omega)
  rw [Nat.min_comm m n] at x1
  obtain ⟨r, hr⟩ : ∃ r, min n m = r := ⟨_, rfl⟩
  rw [hr] at x0 x1
  have hr60 : r ≤ 1000 := by omega
  have hca : Can (can (eqZ z)) r := can_can (eqv_of z r)
  have hcb : Can (can (eqZ y)) r := can_can (eqv_of y r)
  generalize can (eqZ z) = a at *
  generalize can (eqZ y) = b at *
  have HCA := Lib.hid (And.intro hca hcb)
  clear hr hca hcb
  go_enter Try.func9, Try.ntmps9
  go_wp2_with fail
  refine x0.mono ?_
  rintro e w1 ⟨s1, rfl, r1, hs1, v1⟩
  have x1 := x1 w1 v1
  have q := v1
  have hq := q.size
  have R := (Rs.nil w1 r).cons (f := a) r1 HCA.out.1
  clear x0 r1 v1 ha hb
  go_wp2_with fail
  refine x1.mono ?_
  rintro e w2 ⟨s2, rfl, r2, hs2, v2⟩
  have R := (R.below v2).cons (f := b) r2 HCA.out.2
  have q := below_end q hq v2
  have hq := q.size
  clear x1 r2 v2
  have x := meetN (s1 := s1) (s2 := s2) (a := a) (b := b) R hr60 (by simp) (by simp)
  go_wp2_with fail
  refine x.mono ?_
  rintro e w3 ⟨s3, rfl, R, v⟩
  have q := below_end q hq v
  have hq := q.size
  clear x v
  have x := joinN (s1 := s1) (s2 := s2) (a := a) (b := b) R hr60 (by simp) (by simp)
  go_wp2_with fail
  refine x.mono ?_
  rintro e w4 ⟨s4, j, rfl, hj, R, v⟩
  have HJ := Lib.hid hj
  have q := below_end q hq v
  have hq := q.size
  clear x v hj
  have x := meetN (s1 := s2) (s2 := s1) (a := b) (b := a) R hr60 (by simp) (by simp)
  go_wp2_with fail
  refine x.mono ?_
  rintro e w5 ⟨s5, rfl, R, v⟩
  have q := below_end q hq v
  have hq := q.size
  clear x v
  have x := joinN (s1 := s2) (s2 := s1) (a := b) (b := a) R hr60 (by simp) (by simp)
  go_wp2_with fail
  refine x.mono ?_
  rintro e w6 ⟨s6, j', rfl, hj', R, v⟩
  have HE := Lib.hid (show ∀ i, i < r → j i = j' i from fun i hi => HJ.out.unique hj'.swap hi)
  have q := below_end q hq v
  have hq := q.size
  clear x v hj'
  have x := sameN_yes (s1 := s3) (s2 := s5) (a := mt a b) (b := mt b a) R hr60 (by simp) (by simp) (fun i _ => mt_swap a b i)
  go_wp2_with fail
  refine x.mono ?_
  rintro e w7 ⟨rfl, R, v⟩
  have q := below_end q hq v
  have hq := q.size
  clear x v
  have x := sameN_yes (s1 := s4) (s2 := s6) (a := j) (b := j') R hr60 (by simp) (by simp) HE.out
  go_wp2_with fail
  refine x.mono ?_
  rintro e w8 ⟨rfl, R, v⟩
  have q := below_end q hq v
  have hq := q.size
  clear x v
  have x := checkN (s1 := s3) (a := mt a b) R hr60 (by simp)
  have x2 := checkN (s1 := s4) (a := j) R hr60 (by simp)
  go_wp2_with fail
  refine x.mono ?_
  rintro e w9 ⟨rfl, rfl⟩
  go_wp2_with fail
  refine x2.mono ?_
  rintro e w9 ⟨rfl, rfl⟩
  clear x x2
  have R : Rs w8 [(s4, j), (s3, mt a b), (s2, b), (s1, a)] r := fun p hp => R p (by simp at hp ⊢; rcases hp with h | h | h | h <;> simp [h])
  obtain ⟨cs, hcs⟩ : ∃ cs : Array Value, cs = #[.slice (some ⟨s3, 0, none⟩) r r, .slice (some ⟨s1, 0, none⟩) r r, .slice (some ⟨s3, 0, none⟩) r r, .slice (some ⟨s2, 0, none⟩) r r, .slice (some ⟨s1, 0, none⟩) r r, .slice (some ⟨s4, 0, none⟩) r r, .slice (some ⟨s2, 0, none⟩) r r, .slice (some ⟨s4, 0, none⟩) r r] := ⟨_, rfl⟩
  have R := R.below (below_new1 w8 (.cells cs 22))
  have kb := Blk.new w8 22 cs
  have q := q.alloc hq (.cells cs 22)
  have hq := q.size
  have HN := Lib.hid (show ∀ i, i < 8 → i % 2 = 0 → NextTwo (w8.alloc (.cells cs 22)) w8.heap.size r i from fun i h1 h2 => by
    have hi : i = 0 ∨ i = 2 ∨ i = 4 ∨ i = 6 := by omega
    rcases hi with rfl | rfl | rfl | rfl
    · exact nextTwo (s1 := s3) (s2 := s1) (a := mt a b) (b := a) R hr60 (by simp) (by simp) (ref_mt_left a b r) kb (by rw [hcs]; rfl) (by rw [hcs]; rfl)
    · exact nextTwo (s1 := s3) (s2 := s2) (a := mt a b) (b := b) R hr60 (by simp) (by simp) (ref_mt_right a b r) kb (by rw [hcs]; rfl) (by rw [hcs]; rfl)
    · exact nextTwo (s1 := s1) (s2 := s4) (a := a) (b := j) R hr60 (by simp) (by simp) (ref_join_left HJ.out HCA.out.1) kb (by rw [hcs]; rfl) (by rw [hcs]; rfl)
    · exact nextTwo (s1 := s2) (s2 := s4) (a := b) (b := j) R hr60 (by simp) (by simp) (ref_join_right HJ.out HCA.out.2) kb (by rw [hcs]; rfl) (by rw [hcs]; rfl))
  go_upto_region 11 with fail
  rw [← hcs]
  clear kb hcs
  generalize w8.alloc (.cells cs 22) = W at *
  generalize w8.heap.size = g at *
  go_wp2_with fail
  go_loopw [16, 17, 18] (fun vi _ _ wr => ∃ i k : Nat, vi = .int .i64 i ∧ i ≤ 8 ∧ i % 2 = 0 ∧ wr = W.drewN k) (fun vi _ _ _ => 8 - (intOf vi).toNat)
  case atStart => exact ⟨0, 0, rfl, by omega, rfl, rfl⟩
  case round =>
    obtain ⟨i, k, rfl, hi, hmod, rfl⟩ := hrel
    by_cases hlt : i < 8
    · obtain ⟨p, p', c0, c1, x⟩ := HN.out i hlt hmod
      have hin : (i : Int) < 8 := by omega
      obtain ⟨i1, h1⟩ : ∃ i1, i + 1 = i1 := ⟨_, rfl⟩
      rw [h1] at c1
      have hin1 : (i1 : Int) < 8 := by omega
      go_wp2_with fail
      have hw1 : IntKind.i64.wrap ((i : Int) + 1) = (i1 : Int) := by rw [IntKind.wrap_i64]; omega
      go_quiet ((go_at_call 29; exact x _ _))
      go_wp2_with fail
      go_roundw
      case rel => exact ⟨i + 2, k + nq, by simp, by omega, by omega, by first | rfl | simp⟩
      case measure => simp [intOf]; omega
    · have hin : ¬ (i : Int) < 8 := by omega
      have R := R.below (below_drewN (Below.refl W.heap.size W) k)
      have q := below_drewN q k
      have hq := q.size
      generalize W.drewN k = W at *
      clear HN
      have x := meetN (s1 := s1) (s2 := s4) (a := a) (b := j) R hr60 (by simp) (by simp)
      go_wp2_with fail
      refine x.mono ?_
      rintro e w10 ⟨s7, rfl, R, v⟩
      have q := below_end q hq v
      have hq := q.size
      clear x v
      have x := joinN (s1 := s1) (s2 := s3) (a := a) (b := mt a b) R hr60 (by simp) (by simp)
      go_wp2_with fail
      refine x.mono ?_
      rintro e w11 ⟨s8, t, rfl, ht, R, v⟩
      have HT := Lib.hid (show ∀ i, i < r → t i = a i from fun i hi => ht.unique (join_mt HCA.out.1) hi)
      have q := below_end q hq v
      have hq := q.size
      clear x v ht
      have x := refN (s1 := s1) (s2 := s2) (a := a) (b := b) R hr60 (by simp) (by simp)
      go_wp2_with fail
      refine x.mono ?_
      rintro e w12 ⟨v3, rfl, hv3, m12, rfl⟩
      have HV := Lib.hid hv3
      have R := R.below (below_drewN (Below.refl _ _) m12)
      have q := below_drewN q m12
      have hq := q.size
      generalize w11.drewN m12 = w12 at *
      clear x hv3
      have x := sameN_yes (s1 := s7) (s2 := s1) (a := mt a j) (b := a) R hr60 (by simp) (by simp) (mt_of_ref HCA.out.1 (ref_join_left HJ.out HCA.out.1))
      go_wp2_with fail
      refine x.mono ?_
      rintro e w13 ⟨rfl, R, v⟩
      have q := below_end q hq v
      have hq := q.size
      clear x v
      have x := sameN_yes (s1 := s8) (s2 := s1) (a := t) (b := a) R hr60 (by simp) (by simp) HT.out
      go_wp2_with fail
      refine x.mono ?_
      rintro e w14 ⟨rfl, R, v⟩
      have q := below_end q hq v
      have hq := q.size
      clear x v
      have x := sameN_is (s1 := s3) (s2 := s1) (a := mt a b) (b := a) R hr60 (by simp) (by simp) (v := v3) (HV.out.trans ⟨mt_of_ref HCA.out.1, ref_of_mt⟩)
      go_wp2_with fail
      refine x.mono ?_
      rintro e w15 ⟨rfl, R, v⟩
      have q := below_end q hq v
      have hq := q.size
      clear x v
      have x := sameN_is (s1 := s4) (s2 := s2) (a := j) (b := b) R hr60 (by simp) (by simp) (v := v3) (HV.out.trans ⟨fun h i hi => HJ.out.unique (join_of_ref HCA.out.2 h) hi, ref_of_join HCA.out.1 HJ.out⟩)
      go_wp2_with fail
      refine x.mono ?_
      rintro e w16 ⟨rfl, R, v⟩
      have q := below_end q hq v
      have hq := q.size
      clear x v
      have x := works_ok w16
      go_wp2_with fail
      refine x.mono ?_
      rintro e w17 ⟨rfl, v⟩
      have q := below_end q hq v
      go_wp2_with fail
      go_ret
      exact ⟨rfl, q⟩
end Go.Proofs.Ytipniooflaiikaa
