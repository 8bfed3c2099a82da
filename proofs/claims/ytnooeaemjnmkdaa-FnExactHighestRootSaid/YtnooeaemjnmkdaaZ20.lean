/-
  Contracts of sets of points, matrices of some points and determinants, of the program and of the reference.
  Contracts of determinants and finite types, of the reference; of finite types, of the program.
  Contracts of finite types, of the program and of the reference.
  Contracts of powers, exchange places, replayed and repeated deletions, of the program and of the reference.
  Contracts of exchange places, replayed and repeated deletions, of the program and of the reference.
-/
import Derived.Test.YtnooeaemjnmkdaaZ19
namespace Go.Proofs.Ytnooeaemjnmkdaa.Hx
open Go.RowKit
variable {dm : Bool}

theorem del_takeM (m : List (List Int)) (i k : Nat) (hk : k < (m.getD i []).length) : (m.getD i []).take (k + 1) = (m.getD i []).take k ++ [ent m i k] := take_snoc _ hk
theorem sgInt (j : Nat) : ((j : Int).tmod 2 == 1) = decide (sg j = -1) := by
  have e : (j : Int).tmod 2 = ((j % 2 : Nat) : Int) := rfl
  rw [e]
  unfold sg
  by_cases h : j % 2 = 0
  · simp [h]
  · have h2 : j % 2 = 1 := by omega
    simp [h2]


theorem impl_setOf (h : Heap) (m : Nat) (hm : m < 16) : HCalls dm Try.prog 97 [I m] h (fun r h' => ∃ y, r = .s y ∧ Fresh h h' y (setB m)) := by
  refine calls_of_hFun (m := 0) kd_ok mixed Try.func97 rfl (by kernel_rfl) rfl rfl (of_decide_eq_true rfl) ?_; unfold hFun; (conv => whnf)
  refine HLit.empty ?_
  (conv => whnf)
  refine HLoop.intro [4, 3] [6, 7, 8, 9, 12, 13, 14, 15, 16, 17, 18, 19, 20, 3, 10, 11, 4] (by kernel_rfl) (by kernel_rfl) (fun vs h' => ∃ (k : Nat) (z : H0) (r : Nat), vs = [I k, .s z] ∧ k ≤ 4 ∧ Ext h h' ∧ h.length ≤ r ∧ OwnR r h' z (setTo m k)) (fun vs _ => 4 - natAt vs 0) ⟨0, _, h.length, rfl, by omega, Ext.push _ _, Nat.le_refl _, OwnR.push h []⟩ ?_
  rintro vs h' ⟨k, z, r, rfl, hk, E, hr, O⟩
  have hsl := setTo_len m k
  have hE := E.1
  have hdp := div_pos_iff (m := m) (i := k)
  have hdl : m / 2 ^ k ≤ m := Nat.div_le_self _ _
  (conv => whnf)
  refine HShr.bits hm (by omega) ?_
  (conv => whnf)
  refine HIf.dec (fun hpos => ?_) (fun hno => ?_)
  · have hnp := hdp.1 hpos
    have hk4 : k < 4 := by
      by_cases h4 : k = 4
      · subst h4
        exact absurd hm hnp
      · omega
    (conv => whnf)
    refine HShr.bits hm (by omega) ?_
    (conv => whnf)
    refine HAnd.one (by omega) ?_
    (conv => whnf)
    rw [bit_one]
    cases hb : bit m k
    · rw [← setTo_out hb] at O
      refine HIf.no ?_
      (conv => whnf)
      refine HArith.fits (by omega) (by omega) ?_
      (conv => whnf)
      exact ⟨⟨k + 1, z, r, rfl, by omega, E, hr, O⟩, by show 4 - (k + 1) < 4 - k; omega⟩
    · refine HIf.yes ?_
      (conv => whnf)
      refine HLit.one ?_
      (conv => whnf)
      refine ⟨rfl, rfl, HApp.snocR O (by omega) (fun h3 r3 y3 B3 hr3 O3 => ?_)⟩
      rw [← setTo_in hb] at O3
      (conv => whnf)
      refine HArith.fits (by omega) (by omega) ?_
      (conv => whnf)
      exact ⟨⟨k + 1, y3, r3, rfl, by omega, E.but B3 hr, by omega, O3⟩, by show 4 - (k + 1) < 4 - k; omega⟩
  · have hlt : m < 2 ^ k := by
      by_cases hh : m < 2 ^ k
      · exact hh
      · exact absurd (hdp.2 hh) hno
    rw [setTo_all k (by omega) m hlt] at O
    (conv => whnf)
    exact ⟨_, rfl, Fresh.ofRow E O hr⟩

theorem impl_picked (h : Heap) (x0 : H0) (c : List (List Int)) (x1 : H0) (o : List Int) (hx0 : Rows h x0 c) (hx1 : Ints h x1 o) (hC : Cartan c) (ho : ∀ k, k < o.length → 0 ≤ o.getD k 0 ∧ o.getD k 0 < c.length) (hol : o.length ≤ 4) :
    HCalls dm Try.prog 121 [.s x0, .s x1] h (fun r h' => ∃ y, r = .s y ∧ Ext h h' ∧ OwnM h.length h'.length h' y (pick c o)) := by
  have h4 := hC.le
  have hx10 := hx1.ext (Ext.push h [Row.own []])
  refine calls_of_hFun (m := 0) kd_ok mixed Try.func121 rfl (by kernel_rfl) rfl rfl (of_decide_eq_true rfl) ?_; unfold hFun; (conv => whnf)
  refine HLit.empty ?_
  (conv => whnf)
  refine ⟨rfl, hx10.len ?_⟩
  (conv => whnf)
  refine HLoop.intro [14, 5] [15, 16, 17, 7, 18, 8, 19, 20, 21, 22, 23, 24, 10, 25, 26, 27, 28, 29, 30, 31, 32, 33, 34, 8, 35, 21, 36, 37, 38, 39, 5, 40, 14] (by kernel_rfl) (by kernel_rfl) (fun vs h' => ∃ (a : Nat) (z : H0), vs = [I a, .s z] ∧ a ≤ o.length ∧ Ext h h' ∧ OwnM h.length h'.length h' z (pickTo c o a)) (fun vs _ => o.length - natAt vs 0) ⟨0, _, rfl, by omega, Ext.push _ _, OwnM.none h⟩ ?_
  rintro vs h' ⟨a, z, rfl, ha, E, OM⟩
  have hpl := pickTo_len c o a
  have hx1 := hx1.ext E
  (conv => whnf)
  refine HIf.dec (fun hlt => ?_) (fun hge => ?_)
  · have hoa := ho a (by omega)
    obtain ⟨i, hi⟩ : ∃ i : Nat, o.getD a 0 = (i : Int) := ⟨(o.getD a 0).toNat, by omega⟩
    rw [hi] at hoa
    have hir := hC.row i (by omega)
    have Ep := Ext.push h' [Row.own []]
    have hx1p := hx1.ext Ep
    (conv => whnf)
    refine ⟨rfl, Ints.idxN hx1 (by omega) (fun p hp => ?_)⟩
    rw [hi] at hp
    (conv => whnf)
    refine ⟨rfl, hp.load ?_⟩
    (conv => whnf)
    refine HLit.empty ?_
    (conv => whnf)
    refine ⟨rfl, hx1p.len ?_⟩
    (conv => whnf)
    refine HLoop.intro [21, 8] [22, 23, 24, 10, 25, 26, 27, 28, 29, 30, 31, 32, 33, 34, 8, 35, 21] (by kernel_rfl) (by kernel_rfl) (fun vs h2 => ∃ (b : Nat) (y : H0) (r : Nat), vs = [I b, .s y] ∧ b ≤ o.length ∧ Ext h' h2 ∧ h'.length ≤ r ∧ OwnR r h2 y (pickRow c o i b)) (fun vs _ => o.length - natAt vs 0) ⟨0, _, h'.length, rfl, by omega, Ep, Nat.le_refl _, OwnR.push h' []⟩ ?_
    rintro vs h2 ⟨b, y, r, rfl, hb, E2, hr, O⟩
    have hrl := pickRow_len c o i b
    have hE2 := E2.1
    (conv => whnf)
    refine HIf.dec (fun hltb => ?_) (fun hgeb => ?_)
    · have hob := ho b (by omega)
      obtain ⟨j, hj⟩ : ∃ j : Nat, o.getD b 0 = (j : Int) := ⟨(o.getD b 0).toNat, by omega⟩
      rw [hj] at hob
      have hx02 := (hx0.ext E).ext E2
      (conv => whnf)
      refine ⟨rfl, Ints.idxN (hx1.ext E2) (by omega) (fun p2 hp2 => ?_)⟩
      rw [hj] at hp2
      (conv => whnf)
      refine ⟨rfl, hp2.load ?_⟩
      (conv => whnf)
      refine ⟨rfl, Rows.idxN hx02 (by omega) (fun p3 y3 hp3 hy3 => ?_)⟩
      (conv => whnf)
      refine ⟨rfl, hp3.load ?_⟩
      (conv => whnf)
      refine ⟨rfl, Ints.idxN hy3 (by omega) (fun p4 hp4 => ?_)⟩
      (conv => whnf)
      refine ⟨rfl, hp4.load ?_⟩
      rw [ent_eq]
      (conv => whnf)
      refine HLit.one ?_
      (conv => whnf)
      refine ⟨rfl, rfl, HApp.snocR O (by omega) (fun h3 r3 y5 B3 hr3 O3 => ?_)⟩
      have es : pickRow c o i (b + 1) = pickRow c o i b ++ [ent c i j] := by rw [pickRow_succ, hj]; rfl
      rw [← es] at O3
      (conv => whnf)
      refine HArith.fits (by omega) (by omega) ?_
      (conv => whnf)
      exact ⟨⟨b + 1, y5, r3, rfl, by omega, E2.but B3 hr, by omega, O3⟩, by show o.length - (b + 1) < o.length - b; omega⟩
    · have e : b = o.length := by omega
      subst e
      have er : pickTo c o (a + 1) = pickTo c o a ++ [pickRow c o i o.length] := by rw [pickTo_succ, hi]; rfl
      have F := O.own hr
      (conv => whnf)
      refine HLit.row F.one ?_
      (conv => whnf)
      refine ⟨rfl, rfl, HApp.snocM E OM E2 F (by omega) (fun h5 y5 E5 O5 => ?_)⟩
      rw [← er] at O5
      (conv => whnf)
      refine HArith.fits (by omega) (by omega) ?_
      (conv => whnf)
      exact ⟨⟨a + 1, y5, rfl, by omega, E5, O5⟩, by show o.length - (a + 1) < o.length - a; omega⟩
  · have e : a = o.length := by omega
    subst e
    (conv => whnf)
    exact ⟨_, rfl, E, OM⟩

theorem impl_determinant : ∀ (n : Nat), n ≤ 4 → ∀ (h : Heap) (x : H0) (m : List (List Int)), Rows h x m → Sq n m → HCalls dm Try.prog 120 [.s x] h (fun r h' => r = I (detZ n m) ∧ Ext h h') := by
  intro n
  induction n with
  | zero =>
    intro _ h x m hx S
    have hl := S.len
    refine calls_of_hFun (m := 0) kd_ok mixed Try.func120 rfl (by kernel_rfl) rfl rfl (of_decide_eq_true rfl) ?_; unfold hFun; (conv => whnf)
    refine ⟨rfl, hx.len ?_⟩
    (conv => whnf)
    refine HIf.beqT (by omega) ?_
    (conv => whnf)
    exact ⟨rfl, Ext.refl _⟩
  | succ n ih =>
    intro hn h x m hx S
    have hl := S.len
    have hr0 := S.row 0 (by omega)
    rw [detZ_succ]
    refine calls_of_hFun (m := 0) kd_ok mixed Try.func120 rfl (by kernel_rfl) rfl rfl (of_decide_eq_true rfl) ?_; unfold hFun; (conv => whnf)
    refine ⟨rfl, hx.len ?_⟩
    (conv => whnf)
    refine HIf.beqF (by omega) ?_
    (conv => whnf)
    refine ⟨rfl, Rows.idxN (n := 0) hx (by omega) (fun p y hp hy => ?_)⟩
    (conv => whnf)
    refine ⟨rfl, hp.load ?_⟩
    (conv => whnf)
    refine ⟨rfl, hy.len ?_⟩
    (conv => whnf)
    refine HLoop.intro [17, 3, 4] [18, 19, 20, 21, 5, 6, 22, 23, 24, 7, 25, 26, 27, 28, 29, 30, 31, 9, 32, 33, 34, 35, 36, 37, 38, 39, 40, 41, 42, 43, 44, 7, 45, 28, 46, 47, 48, 49, 50, 51, 52, 53, 3, 54, 55, 4, 56, 17] (by kernel_rfl) (by kernel_rfl) (fun vs h' => ∃ j : Nat, vs = [I j, I (sumTo (term n m) j), I (sg j)] ∧ j ≤ n + 1 ∧ Ext h h') (fun vs _ => n + 1 - natAt vs 0) ⟨0, rfl, by omega, Ext.refl _⟩ ?_
    rintro vs h' ⟨j, rfl, hj, E⟩
    have hsum := sum_small (by omega) S hj
    have hsg := sg_cases j
    have hsgs := sg_succ j
    (conv => whnf)
    refine HIf.dec (fun hlt => ?_) (fun hge => ?_)
    · have hts := term_small (by omega) S (j := j) (by omega)
      have hxl := S.low 0 j (by omega) (by omega)
      have hsum2 := sum_small (by omega) S (k := j + 1) (by omega)
      have hss := sumTo_succ (term n m) j
      (conv => whnf)
      refine ⟨rfl, Ints.idxN (hy.ext E) (by omega) (fun p2 hp2 => ?_)⟩
      (conv => whnf)
      refine ⟨rfl, hp2.load ?_⟩
      rw [ent_eq]
      (conv => whnf)
      refine HIf.bne (fun hne => ?_) (fun heq => ?_)
      · have E0 := Ext.push h' [Row.own []]
        have hx1 := (hx.ext E).ext E0
        (conv => whnf)
        refine HLit.empty ?_
        (conv => whnf)
        refine ⟨rfl, Rows.drop1 hx1 (by omega) (fun y3 hy3 => ?_)⟩
        have hy31 := hy3 _ hx1
        (conv => whnf)
        refine ⟨rfl, hy31.len ?_⟩
        have hdl : (m.drop 1).length = n := by simp; omega
        (conv => whnf)
        refine HLoop.intro [28, 7] [29, 30, 31, 9, 32, 33, 34, 35, 36, 37, 38, 39, 40, 41, 42, 43, 44, 7, 45, 28] (by kernel_rfl) (by kernel_rfl) (fun vs h2 => ∃ (t : Nat) (z : H0), vs = [I t, .s z] ∧ t ≤ n ∧ Ext h' h2 ∧ OwnM h'.length h2.length h2 z (minTo m j t)) (fun vs _ => n - natAt vs 0) ⟨0, _, rfl, by omega, E0, OwnM.none h'⟩ ?_
        rintro vs h2 ⟨t, z, rfl, ht, E2, OM⟩
        have hml := minTo_len m j t
        (conv => whnf)
        refine HIf.dec (fun hltt => ?_) (fun hget => ?_)
        · have hgd : (m.drop 1).getD t [] = m.getD (t + 1) [] := by
            simp only [List.getD, List.getElem?_drop]
            rw [Nat.add_comm]
          have hrt := S.row (t + 1) (by omega)
          have hrt' : (m[t + 1]?.getD []).length = n + 1 := hrt
          have hx2 := hx.ext (E.trans E2)
          have hE2 := E2.1
          (conv => whnf)
          refine ⟨rfl, Rows.idxN (hy3 _ hx2) (by omega) (fun p3 y5 hp3 hy5 => ?_)⟩
          rw [hgd] at hy5
          (conv => whnf)
          refine ⟨rfl, hp3.load ?_⟩
          (conv => whnf)
          refine Or.inr (Or.inr (Or.inl (Exists.intro 5 (Exists.intro [0, 2, 3, 4, 6, 7, 8, 9] (Exists.intro [1, 5, 10, 11, 12, 13] (And.intro (show heldOk _ _ _ _ = true by kernel_rfl) ?_)))))); (conv => whnf)
          refine ⟨rfl, Ints.take hy5 j (by omega) (fun y6 hy6 => ?_)⟩
          (conv => whnf)
          refine HArith.to (e' := ((j + 1 : Nat) : Int)) (by omega) (by omega) (by omega) ?_
          (conv => whnf)
          refine ⟨rfl, Ints.slice hy5 (j + 1) (m.getD (t + 1) []).length (Or.inr rfl) (Or.inl ⟨rfl, rfl⟩) (by omega) (Nat.le_refl _) (fun y7 hy7 => ?_)⟩
          rw [List.take_length] at hy7
          have E3 := Ext.push h2 [Row.own []]
          (conv => whnf)
          refine HLit.empty ?_
          (conv => whnf)
          refine ⟨rfl, rfl, HApp.moreR (OwnR.push h2 []) (hy6.ext E3) (by simp; omega) (fun h4 r4 y8 B4 hr4 O4 => ?_)⟩
          have E4 := E3.but B4 (Nat.le_refl _)
          have hE3 := E3.1
          rw [List.nil_append] at O4
          (conv => whnf)
          refine ⟨rfl, rfl, HApp.moreR O4 (hy7.ext E4) (by simp; omega) (fun h5 r5 y9 B5 hr5 O5 => ?_)⟩
          have E5 := E4.but B5 (by omega)
          have hE4 := E4.1
          rw [← del_at] at O5
          have F := O5.own (show h2.length ≤ r5 by omega)
          (conv => whnf)
          refine HLit.row F.one ?_
          (conv => whnf)
          refine ⟨rfl, rfl, HApp.snocM E2 OM E5 F (by omega) (fun h6 y10 E6 O6 => ?_)⟩
          rw [← minTo_succ] at O6
          (conv => whnf)
          refine HArith.fits (by omega) (by omega) ?_
          (conv => whnf)
          exact ⟨⟨t + 1, y10, rfl, by omega, E6, O6⟩, by show n - (t + 1) < n - t; omega⟩
        · have e : t = n := by omega
          subst e
          have b1 : -3 ≤ sg j * ent m 0 j ∧ sg j * ent m 0 j ≤ 3 := by rcases sg_mul (x := ent m 0 j) hsg with e | e <;> rw [e] <;> omega
          (conv => whnf)
          refine HArith.fits (by omega) (by omega) ?_
          (conv => whnf)
          refine (ih (by omega) _ _ _ OM.rows (min_sq S (by omega))).mono ?_
          rintro v h4 ⟨rfl, E4⟩
          (conv => whnf)
          refine HArith.to (e' := term t m j) (by unfold term; rw [Int.mul_assoc]) (by omega) (by omega) ?_
          (conv => whnf)
          refine HArith.to (e' := sumTo (term t m) (j + 1)) hss.symm (by omega) (by omega) ?_
          (conv => whnf)
          refine HArith.to (e' := sg (j + 1)) (by omega) (by omega) (by omega) ?_
          (conv => whnf)
          refine HArith.fits (by omega) (by omega) ?_
          (conv => whnf)
          exact ⟨⟨j + 1, rfl, by omega, (E.trans E2).trans E4⟩, by show t + 1 - (j + 1) < t + 1 - j; omega⟩
      · have et : term n m j = 0 := by unfold term; rw [heq]; simp
        have e2 : sumTo (term n m) (j + 1) = sumTo (term n m) j := by rw [hss, et]; omega
        (conv => whnf)
        refine HArith.to (e' := sg (j + 1)) (by omega) (by omega) (by omega) ?_
        (conv => whnf)
        refine HArith.fits (by omega) (by omega) ?_
        (conv => whnf)
        exact ⟨⟨j + 1, by rw [e2]; rfl, by omega, E⟩, by show n + 1 - (j + 1) < n + 1 - j; omega⟩
    · have e : j = n + 1 := by omega
      subst e
      (conv => whnf)
      exact ⟨rfl, E⟩

end Go.Proofs.Ytnooeaemjnmkdaa.Hx

namespace Go.Proofs.Ytnooeaemjnmkdaa.Hx
open Go.RowKit
variable {dm : Bool}

theorem term_odd {n j : Nat} {m : List (List Int)} (h : sg j = -1) : term n m j = 0 - ent m 0 j * detZ n (minTo m j n) := by
  unfold term
  rw [h]
  omega
theorem term_even {n j : Nat} {m : List (List Int)} (h : ¬ sg j = -1) : term n m j = ent m 0 j * detZ n (minTo m j n) := by
  have h1 : sg j = 1 := by have := sg_cases j; omega
  unfold term
  rw [h1]
  omega


theorem spec_l4Without (n : Nat) (hn : n < 4) (h : Heap) (x : H0) (m : List (List Int)) (j : Nat) (hx : Rows h x m) (S : Sq (n + 1) m) (hj : j < n + 1) :
    HCalls dm Try.prog 119 [.s x, I j] h (fun r h' => ∃ y, r = .s y ∧ Ext h h' ∧ OwnM h.length h'.length h' y (minTo m j n)) := by
  have hl := S.len
  refine calls_of_hFun (m := 0) kd_ok mixed Try.func119 rfl (by kernel_rfl) rfl rfl (of_decide_eq_true rfl) ?_; unfold hFun; (conv => whnf)
  refine HLit.empty ?_
  (conv => whnf)
  refine HLoop.intro [6, 5] [10, 11, 12, 13, 16, 7, 8, 17, 18, 19, 20, 23, 24, 25, 26, 27, 28, 29, 30, 31, 32, 33, 34, 35, 7, 21, 22, 8, 36, 37, 38, 39, 5, 14, 15, 6] (by kernel_rfl) (by kernel_rfl) (fun vs h' => ∃ (k : Nat) (z : H0), vs = [I ((k + 1 : Nat) : Int), .s z] ∧ k ≤ n ∧ Ext h h' ∧ OwnM h.length h'.length h' z (minTo m j k)) (fun vs _ => n + 1 - natAt vs 0) ⟨0, _, rfl, by omega, Ext.push _ _, OwnM.none h⟩ ?_
  rintro vs h' ⟨k, z, rfl, hk, E, OM⟩
  have hml := minTo_len m j k
  have hx1 := hx.ext E
  (conv => whnf)
  refine ⟨rfl, hx1.len ?_⟩
  (conv => whnf)
  refine HIf.dec (fun hlt => ?_) (fun hge => ?_)
  · have hrk := S.row (k + 1) (by omega)
    have Ep := Ext.push h' [Row.own []]
    (conv => whnf)
    refine HLit.empty ?_
    (conv => whnf)
    refine HLoop.intro [8, 7] [17, 18, 19, 20, 23, 24, 25, 26, 27, 28, 29, 30, 31, 32, 33, 34, 35, 7, 21, 22, 8] (by kernel_rfl) (by kernel_rfl) (fun vs h2 => ∃ (b : Nat) (y : H0) (r : Nat), vs = [I b, .s y] ∧ b ≤ n + 1 ∧ Ext h' h2 ∧ h'.length ≤ r ∧ OwnR r h2 y (del ((m.getD (k + 1) []).take b) (j : Nat))) (fun vs _ => n + 1 - natAt vs 0) ⟨0, _, h'.length, rfl, by omega, Ep, Nat.le_refl _, by rw [List.take_zero, del_none]; exact OwnR.push h' []⟩ ?_
    rintro vs h2 ⟨b, y, r, rfl, hb, E2, hr, O⟩
    have hx2 := hx1.ext E2
    have hE2 := E2.1
    have hdl := del_len ((m.getD (k + 1) []).take b) (j : Nat)
    rw [List.length_take] at hdl
    have htl : ((m.getD (k + 1) []).take b).length = b := by rw [List.length_take]; omega
    (conv => whnf)
    refine ⟨rfl, hx2.len ?_⟩
    (conv => whnf)
    refine HIf.dec (fun hltb => ?_) (fun hgeb => ?_)
    · have ht := del_takeM m (k + 1) b (by omega)
      (conv => whnf)
      refine HIf.bne (fun hne => ?_) (fun heq => ?_)
      · have hd := del_ne ((m.getD (k + 1) []).take b) (ent m (k + 1) b) (j : Nat) (by rw [htl]; exact hne)
        rw [← ht] at hd
        (conv => whnf)
        refine ⟨rfl, Rows.idxN hx2 (by omega) (fun p3 y3 hp3 hy3 => ?_)⟩
        (conv => whnf)
        refine ⟨rfl, hp3.load ?_⟩
        (conv => whnf)
        refine ⟨rfl, Ints.idxN hy3 (by omega) (fun p4 hp4 => ?_)⟩
        (conv => whnf)
        refine ⟨rfl, hp4.load ?_⟩
        rw [ent_eq]
        (conv => whnf)
        refine HLit.one ?_
        (conv => whnf)
        refine ⟨rfl, rfl, HApp.snocR O (by omega) (fun h3 r3 y5 B3 hr3 O3 => ?_)⟩
        rw [← hd] at O3
        (conv => whnf)
        refine HArith.fits (by omega) (by omega) ?_
        (conv => whnf)
        exact ⟨⟨b + 1, y5, r3, rfl, by omega, E2.but B3 hr, by omega, O3⟩, by show n + 1 - (b + 1) < n + 1 - b; omega⟩
      · have hd := del_eq ((m.getD (k + 1) []).take b) (ent m (k + 1) b)
        rw [← ht, htl, heq] at hd
        rw [← hd] at O
        (conv => whnf)
        refine HArith.fits (by omega) (by omega) ?_
        (conv => whnf)
        exact ⟨⟨b + 1, y, r, rfl, by omega, E2, hr, O⟩, by show n + 1 - (b + 1) < n + 1 - b; omega⟩
    · have e : b = (m.getD (k + 1) []).length := by omega
      rw [e, List.take_length] at O
      have F := O.own hr
      (conv => whnf)
      refine HLit.row F.one ?_
      (conv => whnf)
      refine ⟨rfl, rfl, HApp.snocM E OM E2 F (by omega) (fun h5 y5 E5 O5 => ?_)⟩
      rw [← minTo_succ] at O5
      (conv => whnf)
      refine HArith.to (e' := ((k + 1 + 1 : Nat) : Int)) (by omega) (by omega) (by omega) ?_
      (conv => whnf)
      exact ⟨⟨k + 1, y5, rfl, by omega, E5, O5⟩, by show n + 1 - (k + 1 + 1) < n + 1 - (k + 1); omega⟩
  · have e : k = n := by omega
    subst e
    (conv => whnf)
    exact ⟨_, rfl, E, OM⟩

theorem spec_l4Det : ∀ (n : Nat), n ≤ 4 → ∀ (h : Heap) (x : H0) (m : List (List Int)), Rows h x m → Sq n m → HCalls dm Try.prog 95 [.s x] h (fun r h' => r = I (detZ n m) ∧ Ext h h') := by
  intro n
  induction n with
  | zero =>
    intro _ h x m hx S
    have hl := S.len
    refine calls_of_hFun (m := 0) kd_ok mixed Try.func95 rfl (by kernel_rfl) rfl rfl (of_decide_eq_true rfl) ?_; unfold hFun; (conv => whnf)
    refine ⟨rfl, hx.len ?_⟩
    (conv => whnf)
    refine HIf.beqT (by omega) ?_
    (conv => whnf)
    exact ⟨rfl, Ext.refl _⟩
  | succ n ih =>
    intro hn h x m hx S
    have hl := S.len
    have hr0 := S.row 0 (by omega)
    rw [detZ_succ]
    refine calls_of_hFun (m := 0) kd_ok mixed Try.func95 rfl (by kernel_rfl) rfl rfl (of_decide_eq_true rfl) ?_; unfold hFun; (conv => whnf)
    refine ⟨rfl, hx.len ?_⟩
    (conv => whnf)
    refine HIf.beqF (by omega) ?_
    (conv => whnf)
    refine HLoop.intro [4, 3] [9, 10, 11, 12, 15, 16, 17, 18, 19, 20, 21, 22, 23, 24, 25, 5, 26, 27, 28, 29, 30, 5, 31, 32, 33, 3, 13, 14, 4] (by kernel_rfl) (by kernel_rfl) (fun vs h' => ∃ j : Nat, vs = [I j, I (sumTo (term n m) j)] ∧ j ≤ n + 1 ∧ Ext h h') (fun vs _ => n + 1 - natAt vs 0) ⟨0, rfl, by omega, Ext.refl _⟩ ?_
    rintro vs h' ⟨j, rfl, hj, E⟩
    have hsum := sum_small (by omega) S hj
    have hx1 := hx.ext E
    (conv => whnf)
    refine ⟨rfl, hx1.len ?_⟩
    (conv => whnf)
    refine HIf.dec (fun hlt => ?_) (fun hge => ?_)
    · have hts := term_small (by omega) S (j := j) (by omega)
      have hsum2 := sum_small (by omega) S (k := j + 1) (by omega)
      have hss := sumTo_succ (term n m) j
      (conv => whnf)
      refine Or.inr (Or.inr (Or.inl (Exists.intro 12 (Exists.intro [0, 1, 2, 3, 4, 5, 6, 7] (Exists.intro [8, 9, 10, 11] (And.intro (show heldOk _ _ _ _ = true by kernel_rfl) ?_)))))); (conv => whnf)
      refine ⟨rfl, Rows.idxN (n := 0) hx1 (by omega) (fun p y hp hy => ?_)⟩
      (conv => whnf)
      refine ⟨rfl, hp.load ?_⟩
      (conv => whnf)
      refine ⟨rfl, Ints.idxN hy (by omega) (fun p2 hp2 => ?_)⟩
      (conv => whnf)
      refine ⟨rfl, hp2.load ?_⟩
      rw [ent_eq]
      (conv => whnf)
      refine HCallF.mat (spec_l4Without n (by omega) _ _ m j hx1.frz S (by omega)) (fun h2 y2 E2 O2 => ?_)
      (conv => whnf)
      refine HCallF.val (ih (by omega) _ _ _ O2.rows.frz (min_sq S (by omega))) (fun h3 E3 => ?_)
      have Eb := (E.trans E2).trans E3
      (conv => whnf)
      refine HArith.fits (by omega) (by omega) ?_
      (conv => whnf)
      refine HRem.of (by decide) ?_
      (conv => whnf)
      rw [sgInt]
      refine HIf.dec (fun hodd => ?_) (fun heven => ?_)
      · have et := term_odd (n := n) (m := m) hodd
        (conv => whnf)
        refine HArith.to (e' := term n m j) et.symm (by omega) (by omega) ?_
        (conv => whnf)
        refine HArith.to (e' := sumTo (term n m) (j + 1)) hss.symm (by omega) (by omega) ?_
        (conv => whnf)
        refine HArith.fits (by omega) (by omega) ?_
        (conv => whnf)
        exact ⟨⟨j + 1, rfl, by omega, Eb⟩, by show n + 1 - (j + 1) < n + 1 - j; omega⟩
      · have et := term_even (n := n) (m := m) heven
        rw [← et]
        (conv => whnf)
        refine HArith.to (e' := sumTo (term n m) (j + 1)) hss.symm (by omega) (by omega) ?_
        (conv => whnf)
        refine HArith.fits (by omega) (by omega) ?_
        (conv => whnf)
        exact ⟨⟨j + 1, rfl, by omega, Eb⟩, by show n + 1 - (j + 1) < n + 1 - j; omega⟩
    · have e : j = n + 1 := by omega
      subst e
      (conv => whnf)
      exact ⟨rfl, E⟩

end Go.Proofs.Ytnooeaemjnmkdaa.Hx

namespace Go.Proofs.Ytnooeaemjnmkdaa.Hx
open Go.RowKit
variable {dm : Bool}

def minorsTo (c : List (List Int)) (k : Nat) : List Int := (List.range k).map fun t => dt c (t + 1)
theorem minorsTo_none (c : List (List Int)) : minorsTo c 0 = [] := rfl
theorem minorsTo_len (c : List (List Int)) (k : Nat) : (minorsTo c k).length = k := by simp [minorsTo]
theorem minorsTo_succ (c : List (List Int)) (k : Nat) : minorsTo c (k + 1) = minorsTo c k ++ [dt c (k + 1)] := by
  unfold minorsTo
  rw [List.range_succ, List.map_append]
  rfl
theorem minorsTo_get {c : List (List Int)} {k n : Nat} (h : k < n) : (minorsTo c n).getD k 0 = dt c (k + 1) := by simp [minorsTo, List.getD, h]
def setsTo (k : Nat) : List (List Int) := (List.range k).map fun t => setB (t + 1)
theorem setsTo_none : setsTo 0 = [] := rfl
theorem setsTo_len (k : Nat) : (setsTo k).length = k := by simp [setsTo]
theorem setsTo_succ (k : Nat) : setsTo (k + 1) = setsTo k ++ [setB (k + 1)] := by
  unfold setsTo
  rw [List.range_succ, List.map_append]
  rfl
theorem setsTo_get {k n : Nat} (h : k < n) : (setsTo n).getD k [] = setB (k + 1) := by simp [setsTo, List.getD, h]
theorem isFinite_off {c : List (List Int)} (h : isCartan c = false) : isFinite c = false := by simp [isFinite, h]
theorem isFinite_on {c : List (List Int)} (h : isCartan c = true) {l : List Int} (hl : l.length = 0 ↔ allPos c = true) : ((l.length : Int) == 0) = isFinite c := by
  have e : isFinite c = allPos c := by simp [isFinite, h]
  rw [e]
  by_cases h0 : l.length = 0
  · rw [hl.1 h0]
    exact beq_iff_eq.2 (by omega)
  · have : allPos c = false := by
      rw [Bool.eq_false_iff]
      exact fun e => h0 (hl.2 e)
    rw [this]
    exact beq_eq_false_iff_ne.2 (by omega)
theorem set_len4 (m : Nat) : (setB m).length ≤ 4 := setTo_len m 4


theorem impl_PrincipalMinors (h : Heap) (x : H0) (c : List (List Int)) (hx : Rows h x c) (hic : isCartan c = true) :
    HCalls dm Try.prog 96 [.s x] h (fun r h' => ∃ y, r = .s y ∧ Fresh h h' y (minorsTo c (2 ^ c.length - 1))) := by
  have hC := (isCartan_iff c).1 hic
  have h4 := hC.le
  have h16 := pow_le16 (n := c.length) (by omega)
  have E0 := Ext.push h [Row.own []]
  refine calls_of_hFun (m := 0) kd_ok mixed Try.func96 rfl (by kernel_rfl) rfl rfl (of_decide_eq_true rfl) ?_; unfold hFun; (conv => whnf)
  refine HLit.empty ?_
  (conv => whnf)
  refine (impl_IsCartan _ _ _ (hx.ext E0) (by omega)).mono ?_
  rintro r h1 ⟨rfl, hh⟩
  subst h1
  rw [hic]
  (conv => whnf)
  refine HIf.no ?_
  (conv => whnf)
  refine HLoop.intro [4, 3] [10, 11, 12, 13, 14, 17, 18, 19, 20, 21, 22, 23, 24, 3, 15, 16, 4] (by kernel_rfl) (by kernel_rfl) (fun vs h' => ∃ (k : Nat) (z : H0) (r : Nat), vs = [I ((k + 1 : Nat) : Int), .s z] ∧ k + 1 ≤ 2 ^ c.length ∧ Ext h h' ∧ h.length ≤ r ∧ OwnR r h' z (minorsTo c k)) (fun vs _ => 16 - natAt vs 0) ⟨0, _, h.length, rfl, Nat.one_le_two_pow, E0, Nat.le_refl _, OwnR.push h []⟩ ?_
  rintro vs h' ⟨k, z, r, rfl, hk, E, hr, O⟩
  have hml := minorsTo_len c k
  have hx1 := hx.ext E
  have hE := E.1
  (conv => whnf)
  refine ⟨rfl, hx1.len ?_⟩
  (conv => whnf)
  refine HShl.one (by omega) ?_
  (conv => whnf)
  refine HIf.dec (fun hlt => ?_) (fun hge => ?_)
  · obtain ⟨f1, f2, f3⟩ := setB_fits c.length (by omega) (k + 1) (by omega) (by omega)
    have hs4 := set_len4 (k + 1)
    (conv => whnf)
    refine (impl_setOf _ (k + 1) (by omega)).mono ?_
    rintro v h2 ⟨y2, rfl, g2⟩
    (conv => whnf)
    refine (impl_picked _ _ c _ _ (hx1.ext g2.1) g2.ints hC f2 hs4).mono ?_
    rintro v h3 ⟨y3, rfl, E3, O3⟩
    (conv => whnf)
    refine (impl_determinant _ hs4 _ _ _ O3.rows (pick_sq hC f2)).mono ?_
    rintro v h5 ⟨rfl, E5⟩
    have Eb := (g2.1.trans E3).trans E5
    have hEb := Eb.1
    have es : minorsTo c (k + 1) = minorsTo c k ++ [detZ (setB (k + 1)).length (pick c (setB (k + 1)))] := minorsTo_succ c k
    (conv => whnf)
    refine HLit.one ?_
    (conv => whnf)
    refine ⟨rfl, rfl, HApp.snocR (O.ext Eb) (by omega) (fun h6 r6 y6 B6 hr6 O6 => ?_)⟩
    rw [← es] at O6
    (conv => whnf)
    refine HArith.to (e' := ((k + 1 + 1 : Nat) : Int)) (by omega) (by omega) (by omega) ?_
    (conv => whnf)
    exact ⟨⟨k + 1, y6, r6, rfl, by omega, (E.trans Eb).but B6 hr, by omega, O6⟩, by show 16 - (k + 1 + 1) < 16 - (k + 1); omega⟩
  · have e : 2 ^ c.length - 1 = k := by omega
    rw [e]
    (conv => whnf)
    exact ⟨_, rfl, Fresh.ofRow E O hr⟩

theorem impl_WitnessOf (h : Heap) (x : H0) (c : List (List Int)) (hx : Rows h x c) (hic : isCartan c = true) :
    HCalls dm Try.prog 76 [.s x] h (fun r h' => ∃ (y : H0) (l : List Int), r = .s y ∧ Ext h h' ∧ Ints h' y l ∧ (l.length = 0 ↔ allPos c = true)) := by
  have hC := (isCartan_iff c).1 hic
  have h4 := hC.le
  have h16 := pow_le16 (n := c.length) (by omega)
  refine calls_of_hFun (m := 0) kd_ok mixed Try.func76 rfl (by kernel_rfl) rfl rfl (of_decide_eq_true rfl) ?_; unfold hFun; (conv => whnf)
  refine (impl_PrincipalMinors _ _ c hx hic).mono ?_
  rintro r h1 ⟨y1, rfl, f1⟩
  have hy := f1.ints
  have hml := minorsTo_len c (2 ^ c.length - 1)
  (conv => whnf)
  refine ⟨rfl, hy.len ?_⟩
  rw [hml]
  (conv => whnf)
  refine HLoop.intro [8] [9, 10, 11, 12, 3, 4, 13, 14, 15, 16, 17, 2, 18, 8] (by kernel_rfl) (by kernel_rfl) (fun vs h' => ∃ k : Nat, vs = [I k] ∧ k ≤ 2 ^ c.length - 1 ∧ h' = h1 ∧ ∀ t, t < k → 0 < dt c (t + 1)) (fun vs _ => 16 - natAt vs 0) ⟨0, rfl, by omega, rfl, fun t ht => by omega⟩ ?_
  rintro vs h' ⟨k, rfl, hk, hh, hb⟩
  subst h'
  (conv => whnf)
  refine HIf.dec (fun hlt => ?_) (fun hge => ?_)
  · have hg := minorsTo_get (c := c) (k := k) (n := 2 ^ c.length - 1) (by omega)
    (conv => whnf)
    refine ⟨rfl, Ints.idxN hy (by omega) (fun p hp => ?_)⟩
    rw [hg] at hp
    (conv => whnf)
    refine ⟨rfl, hp.load ?_⟩
    (conv => whnf)
    refine HIf.dec (fun hle => ?_) (fun hpos => ?_)
    · (conv => whnf)
      refine HArith.to (e' := ((k + 1 : Nat) : Int)) (by omega) (by omega) (by omega) ?_
      (conv => whnf)
      refine (impl_setOf _ (k + 1) (by omega)).mono ?_
      rintro v h2 ⟨y2, rfl, g2⟩
      have f1' := (setB_fits c.length (by omega) (k + 1) (by omega) (by omega)).1
      have hap := allPos_not (c := c) (k := k) (by omega) hle
      (conv => whnf)
      exact ⟨_, _, rfl, f1.1.trans g2.1, g2.ints, ⟨fun h => absurd h f1', fun h => by rw [hap] at h; cases h⟩⟩
    · (conv => whnf)
      refine HArith.fits (by omega) (by omega) ?_
      (conv => whnf)
      refine ⟨⟨k + 1, rfl, by omega, rfl, fun t ht => ?_⟩, by show 16 - (k + 1) < 16 - k; omega⟩
      by_cases e : t = k
      · subst e; omega
      · exact hb t (by omega)
  · have hap := allPos_of (c := c) (fun t ht => hb t (by omega))
    (conv => whnf)
    refine HLit.empty ?_
    (conv => whnf)
    exact ⟨_, [], rfl, f1.1.trans (Ext.push _ _), (OwnR.push _ []).ints, ⟨fun _ => hap, fun _ => rfl⟩⟩

theorem impl_IsFinite (h : Heap) (x : H0) (c : List (List Int)) (hx : Rows h x c) (hcl : c.length ≤ 1048576) :
    HCalls dm Try.prog 49 [.s x] h (fun r h' => r = B (isFinite c) ∧ Ext h h') := by
  refine calls_of_hFun (m := 0) kd_ok mixed Try.func49 rfl (by kernel_rfl) rfl rfl (of_decide_eq_true rfl) ?_; unfold hFun; (conv => whnf)
  refine (impl_IsCartan _ _ _ hx (by omega)).mono ?_
  rintro r h1 ⟨rfl, hh⟩
  subst h1
  (conv => whnf)
  cases hic : isCartan c
  · (repeat (first | (refine HIf.no ?_; conv => whnf)))
    exact ⟨bEq (isFinite_off hic), Ext.refl _⟩
  refine HIf.yes ?_
  (conv => whnf)
  refine HIf.yes ?_
  (conv => whnf)
  refine (impl_WitnessOf _ _ c hx hic).mono ?_
  rintro r h1 ⟨y, l, rfl, E, hl, hiff⟩
  have hfin := isFinite_on hic hiff
  (conv => whnf)
  (repeat (first | (refine HIf.yes ?_; conv => whnf) | (refine ⟨rfl, hl.len ?_⟩; conv => whnf)))
  exact ⟨bEq hfin.symm, E⟩

theorem spec_l4Sets (h : Heap) (n : Nat) (hn : n < 5) :
    HCalls dm Try.prog 93 [I n] h (fun r h' => ∃ y, r = .s y ∧ Ext h h' ∧ OwnM h.length h'.length h' y (setsTo (2 ^ n - 1))) := by
  have h16 := pow_le16 hn
  refine calls_of_hFun (m := 0) kd_ok mixed Try.func93 rfl (by kernel_rfl) rfl rfl (of_decide_eq_true rfl) ?_; unfold hFun; (conv => whnf)
  refine HLit.empty ?_
  (conv => whnf)
  refine HLoop.intro [4, 3] [8, 9, 10, 11, 14, 5, 6, 15, 16, 17, 20, 21, 22, 23, 24, 25, 26, 27, 28, 5, 18, 19, 6, 29, 30, 31, 32, 3, 12, 13, 4] (by kernel_rfl) (by kernel_rfl) (fun vs h' => ∃ (k : Nat) (z : H0), vs = [I ((k + 1 : Nat) : Int), .s z] ∧ k + 1 ≤ 2 ^ n ∧ Ext h h' ∧ OwnM h.length h'.length h' z (setsTo k)) (fun vs _ => 16 - natAt vs 0) ⟨0, _, rfl, Nat.one_le_two_pow, Ext.push _ _, OwnM.none h⟩ ?_
  rintro vs h' ⟨k, z, rfl, hk, E, OM⟩
  have hsl := setsTo_len k
  (conv => whnf)
  refine HShl.one hn ?_
  (conv => whnf)
  refine HIf.dec (fun hlt => ?_) (fun hge => ?_)
  · have Ep := Ext.push h' [Row.own []]
    (conv => whnf)
    refine HLit.empty ?_
    (conv => whnf)
    refine HLoop.intro [6, 5] [15, 16, 17, 20, 21, 22, 23, 24, 25, 26, 27, 28, 5, 18, 19, 6] (by kernel_rfl) (by kernel_rfl) (fun vs h2 => ∃ (b : Nat) (y : H0) (r : Nat), vs = [I b, .s y] ∧ b ≤ n ∧ Ext h' h2 ∧ h'.length ≤ r ∧ OwnR r h2 y (setTo (k + 1) b)) (fun vs _ => n - natAt vs 0) ⟨0, _, h'.length, rfl, by omega, Ep, Nat.le_refl _, OwnR.push h' []⟩ ?_
    rintro vs h2 ⟨b, y, r, rfl, hb, E2, hr, O⟩
    have htl := setTo_len (k + 1) b
    have hE2 := E2.1
    have hdl : (k + 1) / 2 ^ b ≤ k + 1 := Nat.div_le_self _ _
    (conv => whnf)
    refine HIf.dec (fun hltb => ?_) (fun hgeb => ?_)
    · (conv => whnf)
      refine HShr.bits (by omega) (by omega) ?_
      (conv => whnf)
      refine HAnd.one (by omega) ?_
      (conv => whnf)
      rw [bit_one]
      cases hbt : bit (k + 1) b
      · rw [← setTo_out hbt] at O
        refine HIf.no ?_
        (conv => whnf)
        refine HArith.fits (by omega) (by omega) ?_
        (conv => whnf)
        exact ⟨⟨b + 1, y, r, rfl, by omega, E2, hr, O⟩, by show n - (b + 1) < n - b; omega⟩
      · refine HIf.yes ?_
        (conv => whnf)
        refine HLit.one ?_
        (conv => whnf)
        refine ⟨rfl, rfl, HApp.snocR O (by omega) (fun h3 r3 y3 B3 hr3 O3 => ?_)⟩
        rw [← setTo_in hbt] at O3
        (conv => whnf)
        refine HArith.fits (by omega) (by omega) ?_
        (conv => whnf)
        exact ⟨⟨b + 1, y3, r3, rfl, by omega, E2.but B3 hr, by omega, O3⟩, by show n - (b + 1) < n - b; omega⟩
    · have e : b = n := by omega
      rw [e, setTo_all n hn (k + 1) (by omega)] at O
      have F := O.own hr
      (conv => whnf)
      refine HLit.row F.one ?_
      (conv => whnf)
      refine ⟨rfl, rfl, HApp.snocM E OM E2 F (by omega) (fun h5 y5 E5 O5 => ?_)⟩
      rw [← setsTo_succ] at O5
      (conv => whnf)
      refine HArith.to (e' := ((k + 1 + 1 : Nat) : Int)) (by omega) (by omega) (by omega) ?_
      (conv => whnf)
      exact ⟨⟨k + 1, y5, rfl, by omega, E5, O5⟩, by show 16 - (k + 1 + 1) < 16 - (k + 1); omega⟩
  · have e : 2 ^ n - 1 = k := by omega
    rw [e]
    (conv => whnf)
    exact ⟨_, rfl, E, OM⟩

theorem spec_l3Set (h : Heap) (x0 : H0) (c : List (List Int)) (x1 : H0) (o : List Int) (hx0 : Rows h x0 c) (hx1 : Ints h x1 o) (hic : isCartan c = true) (ho : ∀ k, k < o.length → 0 ≤ o.getD k 0 ∧ o.getD k 0 < c.length) (hs : ∀ k, k < o.length → k = 0 ∨ o.getD (k - 1) 0 < o.getD k 0) (hol : o.length ≤ 4) :
    HCalls dm Try.prog 118 [.s x0, .s x1] h (fun r h' => r = B true ∧ h' = h) := by
  have hC := (isCartan_iff c).1 hic
  have h4 := hC.le
  refine calls_of_hFun (m := 0) kd_ok mixed Try.func118 rfl (by kernel_rfl) rfl rfl (of_decide_eq_true rfl) ?_; unfold hFun; (conv => whnf)
  refine HLoop.intro [5] [6, 7, 8, 9, 12, 13, 14, 15, 16, 17, 18, 19, 20, 21, 22, 23, 24, 25, 26, 27, 28, 29, 30, 31, 32, 33, 34, 35, 36, 4, 10, 11, 5] (by kernel_rfl) (by kernel_rfl) (fun vs h' => ∃ k : Nat, vs = [I k] ∧ k ≤ o.length ∧ h' = h) (fun vs _ => o.length - natAt vs 0) ⟨0, rfl, by omega, rfl⟩ ?_
  rintro vs h' ⟨k, rfl, hk, hh⟩
  subst h'
  (conv => whnf)
  refine ⟨rfl, hx1.len ?_⟩
  (conv => whnf)
  refine HIf.dec (fun hlt => ?_) (fun hge => ?_)
  · have hok := ho k (by omega)
    have hsk := hs k (by omega)
    have hpt : isPoint c (o.getD k 0) = true := by simp only [isPoint, inRange, Bool.and_eq_true, decide_eq_true_eq]; omega
    have idx1 : ∀ {K : HV → Prop}, (∀ p, At h p (ci (o.getD k 0)) → K (.s p)) → HIdx h (.s x1) (I k) K := fun hK => Ints.idxN hx1 (by omega) hK
    (conv => whnf)
    refine Or.inl (And.intro (show Region.lexB _ _ = true by kernel_rfl) ?_); (conv => whnf)
    refine ⟨rfl, idx1 (fun p hp => ?_)⟩
    (conv => whnf)
    refine ⟨rfl, hp.load ?_⟩
    (conv => whnf)
    refine ⟨rfl, hx0.len ?_⟩
    (conv => whnf)
    refine HArith.fits (by omega) (by omega) ?_
    (conv => whnf)
    refine HCallQ.of (.bool (decide (0 ≤ o.getD k 0) && decide (o.getD k 0 ≤ (c.length : Int) - 1))) (spec_l1In _ (o.getD k 0) 0 ((c.length : Int) - 1)) (fun x h' hR => hR.1) ?_
    rw [isPoint_l1, hpt]
    (conv => whnf)
    by_cases hk0 : (k : Int) > 0
    · have idx2 : ∀ {K : HV → Prop}, (∀ p, At h p (ci (o.getD (k - 1) 0)) → K (.s p)) → HIdx h (.s x1) (I ((k - 1 : Nat) : Int)) K := fun hK => Ints.idxN hx1 (by omega) hK
      have hng : ¬ (o.getD (k - 1) 0 ≥ o.getD k 0) := by omega
      (repeat (first | (refine HIf.yes ?_; conv => whnf) | (refine HIf.no ?_; conv => whnf) | (refine HIf.decT hk0 ?_; conv => whnf) | (refine HArith.to (e' := ((k - 1 : Nat) : Int)) (by omega) (by omega) (by omega) ?_; conv => whnf) | (refine ⟨rfl, idx2 (fun p hp => ?_)⟩; conv => whnf) | (refine ⟨rfl, idx1 (fun p hp => ?_)⟩; conv => whnf) | (refine ⟨rfl, At.load (by assumption) ?_⟩; conv => whnf)))
      refine HIf.decF hng ?_
      (conv => whnf)
      refine HArith.fits (by omega) (by omega) ?_
      (conv => whnf)
      exact ⟨⟨k + 1, rfl, by omega, rfl⟩, by show o.length - (k + 1) < o.length - k; omega⟩
    · (repeat (first | (refine HIf.yes ?_; conv => whnf) | (refine HIf.no ?_; conv => whnf) | (refine HIf.decF hk0 ?_; conv => whnf)))
      refine HArith.fits (by omega) (by omega) ?_
      (conv => whnf)
      exact ⟨⟨k + 1, rfl, by omega, rfl⟩, by show o.length - (k + 1) < o.length - k; omega⟩
  · (conv => whnf)
    refine (spec_IsCartan _ _ _ hx0 (by omega)).mono ?_
    rintro r h1 ⟨rfl, hh⟩
    subst h1
    rw [hic]
    (conv => whnf)
    exact ⟨rfl, rfl⟩

theorem spec_SubCartan (h : Heap) (x0 : H0) (c : List (List Int)) (x1 : H0) (o : List Int) (hx0 : Rows h x0 c) (hx1 : Ints h x1 o) (hic : isCartan c = true) (ho : ∀ k, k < o.length → 0 ≤ o.getD k 0 ∧ o.getD k 0 < c.length) (hs : ∀ k, k < o.length → k = 0 ∨ o.getD (k - 1) 0 < o.getD k 0) (hol : o.length ≤ 4) (hne : o.length ≠ 0) :
    HCalls dm Try.prog 94 [.s x0, .s x1] h (fun r h' => ∃ y, r = T2 y true ∧ Ext h h' ∧ OwnM h.length h'.length h' y (pick c o)) := by
  have hC := (isCartan_iff c).1 hic
  have h4 := hC.le
  have E0 := Ext.push h [Row.own []]
  have hx10 := hx1.ext E0
  refine calls_of_hFun (m := 0) kd_ok mixed Try.func94 rfl (by kernel_rfl) rfl rfl (of_decide_eq_true rfl) ?_; unfold hFun; (conv => whnf)
  refine HLit.empty ?_
  (conv => whnf)
  refine (spec_l3Set _ _ c _ o (hx0.ext E0) hx10 hic ho hs hol).mono ?_
  rintro r h1 ⟨rfl, hh⟩
  subst h1
  have hz : ¬ ((o.length : Int) = 0) := by omega
  (conv => whnf)
  (repeat (first | (refine HIf.yes ?_; conv => whnf) | (refine HIf.no ?_; conv => whnf) | (refine ⟨rfl, hx10.len ?_⟩; conv => whnf)))
  refine HIf.beqF hz ?_
  (conv => whnf)
  refine HLoop.intro [7, 6] [21, 22, 23, 24, 27, 8, 9, 28, 29, 30, 31, 34, 35, 36, 37, 38, 39, 40, 41, 42, 43, 44, 45, 46, 47, 48, 49, 8, 32, 33, 9, 50, 51, 52, 53, 6, 25, 26, 7] (by kernel_rfl) (by kernel_rfl) (fun vs h' => ∃ (a : Nat) (z : H0), vs = [I a, .s z] ∧ a ≤ o.length ∧ Ext h h' ∧ OwnM h.length h'.length h' z (pickTo c o a)) (fun vs _ => o.length - natAt vs 0) ⟨0, _, rfl, by omega, Ext.push _ _, OwnM.none h⟩ ?_
  rintro vs h' ⟨a, z, rfl, ha, E, OM⟩
  have hpl := pickTo_len c o a
  have hx1 := hx1.ext E
  (conv => whnf)
  refine ⟨rfl, hx1.len ?_⟩
  (conv => whnf)
  refine HIf.dec (fun hlt => ?_) (fun hge => ?_)
  · have hoa := ho a (by omega)
    obtain ⟨i, hi⟩ : ∃ i : Nat, o.getD a 0 = (i : Int) := ⟨(o.getD a 0).toNat, by omega⟩
    rw [hi] at hoa
    have hir := hC.row i (by omega)
    have Ep := Ext.push h' [Row.own []]
    (conv => whnf)
    refine HLit.empty ?_
    (conv => whnf)
    refine HLoop.intro [9, 8] [28, 29, 30, 31, 34, 35, 36, 37, 38, 39, 40, 41, 42, 43, 44, 45, 46, 47, 48, 49, 8, 32, 33, 9] (by kernel_rfl) (by kernel_rfl) (fun vs h2 => ∃ (b : Nat) (y : H0) (r : Nat), vs = [I b, .s y] ∧ b ≤ o.length ∧ Ext h' h2 ∧ h'.length ≤ r ∧ OwnR r h2 y (pickRow c o i b)) (fun vs _ => o.length - natAt vs 0) ⟨0, _, h'.length, rfl, by omega, Ep, Nat.le_refl _, OwnR.push h' []⟩ ?_
    rintro vs h2 ⟨b, y, r, rfl, hb, E2, hr, O⟩
    have hrl := pickRow_len c o i b
    have hE2 := E2.1
    have hx12 := hx1.ext E2
    (conv => whnf)
    refine ⟨rfl, hx12.len ?_⟩
    (conv => whnf)
    refine HIf.dec (fun hltb => ?_) (fun hgeb => ?_)
    · have hob := ho b (by omega)
      obtain ⟨j, hj⟩ : ∃ j : Nat, o.getD b 0 = (j : Int) := ⟨(o.getD b 0).toNat, by omega⟩
      rw [hj] at hob
      have hx02 := (hx0.ext E).ext E2
      (conv => whnf)
      refine Or.inr (Or.inr (Or.inl (Exists.intro 15 (Exists.intro [0, 1, 2, 3, 4, 5, 6, 7, 8, 9, 10, 11, 12, 13] (Exists.intro [14, 15, 16] (And.intro (show heldOk _ _ _ _ = true by kernel_rfl) ?_)))))); (conv => whnf)
      refine ⟨rfl, Ints.idxN hx12 (by omega) (fun p hp => ?_)⟩
      rw [hi] at hp
      (conv => whnf)
      refine ⟨rfl, hp.load ?_⟩
      (conv => whnf)
      refine ⟨rfl, Rows.idxN hx02 (by omega) (fun p3 y3 hp3 hy3 => ?_)⟩
      (conv => whnf)
      refine ⟨rfl, hp3.load ?_⟩
      (conv => whnf)
      refine ⟨rfl, Ints.idxN hx12 (by omega) (fun p2 hp2 => ?_)⟩
      rw [hj] at hp2
      (conv => whnf)
      refine ⟨rfl, hp2.load ?_⟩
      (conv => whnf)
      refine ⟨rfl, Ints.idxN hy3 (by omega) (fun p4 hp4 => ?_)⟩
      (conv => whnf)
      refine ⟨rfl, hp4.load ?_⟩
      rw [ent_eq]
      (conv => whnf)
      refine HLit.one ?_
      (conv => whnf)
      refine ⟨rfl, rfl, HApp.snocR O (by omega) (fun h3 r3 y5 B3 hr3 O3 => ?_)⟩
      have es : pickRow c o i (b + 1) = pickRow c o i b ++ [ent c i j] := by rw [pickRow_succ, hj]; rfl
      rw [← es] at O3
      (conv => whnf)
      refine HArith.fits (by omega) (by omega) ?_
      (conv => whnf)
      exact ⟨⟨b + 1, y5, r3, rfl, by omega, E2.but B3 hr, by omega, O3⟩, by show o.length - (b + 1) < o.length - b; omega⟩
    · have e : b = o.length := by omega
      subst e
      have er : pickTo c o (a + 1) = pickTo c o a ++ [pickRow c o i o.length] := by rw [pickTo_succ, hi]; rfl
      have F := O.own hr
      (conv => whnf)
      refine HLit.row F.one ?_
      (conv => whnf)
      refine ⟨rfl, rfl, HApp.snocM E OM E2 F (by omega) (fun h5 y5 E5 O5 => ?_)⟩
      rw [← er] at O5
      (conv => whnf)
      refine HArith.fits (by omega) (by omega) ?_
      (conv => whnf)
      exact ⟨⟨a + 1, y5, rfl, by omega, E5, O5⟩, by show o.length - (a + 1) < o.length - a; omega⟩
  · have e : a = o.length := by omega
    subst e
    (conv => whnf)
    exact ⟨_, rfl, E, OM⟩

theorem spec_WitnessOf (h : Heap) (x : H0) (c : List (List Int)) (hx : Rows h x c) (hic : isCartan c = true) :
    HCalls dm Try.prog 75 [.s x] h (fun r h' => ∃ (y : H0) (l : List Int), r = .s y ∧ Ext h h' ∧ Ints h' y l ∧ (l.length = 0 ↔ allPos c = true)) := by
  have hC := (isCartan_iff c).1 hic
  have h4 := hC.le
  have h16 := pow_le16 (n := c.length) (by omega)
  refine calls_of_hFun (m := 0) kd_ok mixed Try.func75 rfl (by kernel_rfl) rfl rfl (of_decide_eq_true rfl) ?_; unfold hFun; (conv => whnf)
  refine (spec_IsCartan _ _ _ hx (by omega)).mono ?_
  rintro r h1 ⟨rfl, hh⟩
  subst h1
  rw [hic]
  (conv => whnf)
  refine HIf.no ?_
  (conv => whnf)
  refine ⟨rfl, hx.len ?_⟩
  (conv => whnf)
  refine (spec_l4Sets _ c.length (by omega)).mono ?_
  rintro r h1 ⟨y1, rfl, E1, OM⟩
  have hsl := setsTo_len (2 ^ c.length - 1)
  (conv => whnf)
  refine HLoop.intro [4] [14, 15, 16, 17, 21, 22, 23, 24, 25, 26, 20, 27, 28, 5, 6, 29, 30, 31, 32, 33, 34, 35, 2, 18, 19, 4] (by kernel_rfl) (by kernel_rfl) (fun vs h' => ∃ k : Nat, vs = [I k] ∧ k ≤ 2 ^ c.length - 1 ∧ Ext h1 h' ∧ ∀ t, t < k → 0 < dt c (t + 1)) (fun vs _ => 16 - natAt vs 0) ⟨0, rfl, by omega, Ext.refl _, fun t ht => by omega⟩ ?_
  rintro vs h' ⟨k, rfl, hk, E2, hb⟩
  have R := (OM.ext E2).rows
  have E := E1.trans E2
  (conv => whnf)
  refine ⟨rfl, R.len ?_⟩
  rw [hsl]
  (conv => whnf)
  refine HIf.dec (fun hlt => ?_) (fun hge => ?_)
  · have hg := setsTo_get (k := k) (n := 2 ^ c.length - 1) (by omega)
    obtain ⟨f1, f2, f3⟩ := setB_fits c.length (by omega) (k + 1) (by omega) (by omega)
    have hs4 := set_len4 (k + 1)
    (conv => whnf)
    refine ⟨rfl, Rows.idxN R (by omega) (fun p z hp hz => ?_)⟩
    rw [hg] at hz
    (conv => whnf)
    refine ⟨rfl, hp.load ?_⟩
    (conv => whnf)
    refine (spec_SubCartan _ _ c _ _ (hx.ext E) hz hic f2 f3 hs4 f1).mono ?_
    rintro v h3 ⟨y3, rfl, E3, O3⟩
    (conv => whnf)
    refine (spec_l4Det _ hs4 _ _ _ O3.rows (pick_sq hC f2)).mono ?_
    rintro v h5 ⟨rfl, E5⟩
    have E35 := E3.trans E5
    have R5 := R.ext E35
    have ed : detZ (setB (k + 1)).length (pick c (setB (k + 1))) = dt c (k + 1) := rfl
    rw [ed]
    (conv => whnf)
    refine HIf.dec (fun hle => ?_) (fun hpos => ?_)
    · have hap := allPos_not (c := c) (k := k) (by omega) hle
      (conv => whnf)
      refine ⟨rfl, Rows.idxN R5 (by omega) (fun p7 z7 hp7 hz7 => ?_)⟩
      rw [hg] at hz7
      (conv => whnf)
      refine ⟨rfl, hp7.load ?_⟩
      (conv => whnf)
      exact ⟨_, _, rfl, E.trans E35, hz7, ⟨fun h => absurd h f1, fun h => by rw [hap] at h; cases h⟩⟩
    · (conv => whnf)
      refine HArith.fits (by omega) (by omega) ?_
      (conv => whnf)
      refine ⟨⟨k + 1, rfl, by omega, E2.trans E35, fun t ht => ?_⟩, by show 16 - (k + 1) < 16 - k; omega⟩
      by_cases e : t = k
      · subst e; omega
      · exact hb t (by omega)
  · have hap := allPos_of (c := c) (fun t ht => hb t (by omega))
    (conv => whnf)
    refine HLit.empty ?_
    (conv => whnf)
    exact ⟨_, [], rfl, E.trans (Ext.push _ _), (OwnR.push _ []).ints, ⟨fun _ => hap, fun _ => rfl⟩⟩

theorem spec_IsFinite (h : Heap) (x : H0) (c : List (List Int)) (hx : Rows h x c) (hcl : c.length ≤ 1048576) :
    HCalls dm Try.prog 48 [.s x] h (fun r h' => r = B (isFinite c) ∧ Ext h h') := by
  refine calls_of_hFun (m := 0) kd_ok mixed Try.func48 rfl (by kernel_rfl) rfl rfl (of_decide_eq_true rfl) ?_; unfold hFun; (conv => whnf)
  refine (spec_IsCartan _ _ _ hx (by omega)).mono ?_
  rintro r h1 ⟨rfl, hh⟩
  subst h1
  (conv => whnf)
  cases hic : isCartan c
  · (repeat (first | (refine HIf.no ?_; conv => whnf)))
    exact ⟨bEq (isFinite_off hic), Ext.refl _⟩
  refine HIf.yes ?_
  (conv => whnf)
  refine HIf.yes ?_
  (conv => whnf)
  refine (spec_WitnessOf _ _ c hx hic).mono ?_
  rintro r h1 ⟨y, l, rfl, E, hl, hiff⟩
  have hfin := isFinite_on hic hiff
  (conv => whnf)
  (repeat (first | (refine HIf.yes ?_; conv => whnf) | (refine ⟨rfl, hl.len ?_⟩; conv => whnf)))
  exact ⟨bEq hfin.symm, E⟩

end Go.Proofs.Ytnooeaemjnmkdaa.Hx

namespace Go.Proofs.Ytnooeaemjnmkdaa.Hx
open Go.RowKit
variable {dm : Bool}

def powTo (c : List (List Int)) (w : List Int) : Nat → Option (List Int)
  | 0 => some []
  | k + 1 => match powTo c w k with
    | none => none
    | some y => if mulOk c y w then some (mul c y w) else none
def in60 (k : Int) : Bool := decide (0 ≤ k) && decide (k ≤ 60)
theorem in60_eq (k : Int) : in60 k = (decide (0 ≤ k) && decide (k ≤ 60)) := rfl
def powOk (c : List (List Int)) (w : List Int) (k : Int) : Bool := isWord c w && in60 k && (powTo c w k.toNat).isSome
def pow (c : List (List Int)) (w : List Int) (k : Int) : List Int := if powOk c w k then (powTo c w k.toNat).getD [] else []

theorem powTo_fail {c : List (List Int)} {w l : List Int} {i : Nat} (h : powTo c w i = some l) (hm : mulOk c l w = false) : powTo c w (i + 1) = none := by
  rw [powTo, h]
  simp [hm]
theorem powTo_next {c : List (List Int)} {w l : List Int} {i : Nat} (h : powTo c w i = some l) (hm : mulOk c l w = true) : powTo c w (i + 1) = some (mul c l w) := by
  rw [powTo, h]
  simp [hm]
theorem powTo_none {c : List (List Int)} {w : List Int} {i : Nat} (h : powTo c w i = none) : ∀ k, i ≤ k → powTo c w k = none := by
  intro k hk
  induction k with
  | zero =>
    have : i = 0 := by omega
    subst this
    exact h
  | succ k ih =>
    by_cases e : i = k + 1
    · subst e; exact h
    · rw [powTo, ih (by omega)]
theorem powTo_len {c : List (List Int)} {w l : List Int} : ∀ {i : Nat}, powTo c w i = some l → l.length ≤ 31
  | 0, h => by
    rw [powTo] at h
    injection h with h
    subst h
    simp
  | i + 1, h => by
    rw [powTo] at h
    split at h
    · cases h
    · split at h
      · injection h with h
        subst h
        exact mul_le _ _ _
      · cases h
theorem mul_norm {c : List (List Int)} {w : List Int} (h : isWord c w = true) (y : List Int) : mulOk c y (normF c w) = mulOk c y w ∧ mul c y (normF c w) = mul c y w := by
  obtain ⟨hC, hl, hw⟩ := word_cartan h
  have h1 := normF_app (c := c) (a := y) hC hw (by omega)
  have h2 := (normF_word h).2
  have e : mulOk c y (normF c w) = mulOk c y w := by simp [mulOk, h1, h, h2]
  refine ⟨e, ?_⟩
  unfold mul
  rw [e, h1]
theorem pow_off {c : List (List Int)} {w : List Int} {k : Int} (h : powOk c w k = false) : pow c w k = [] := by simp [pow, h]
theorem pow_on {c : List (List Int)} {w l : List Int} {k : Int} (h : isWord c w = true) (hk : in60 k = true) (hp : powTo c w k.toNat = some l) : powOk c w k = true ∧ pow c w k = l := by
  have e : powOk c w k = true := by simp [powOk, h, hk, hp]
  exact ⟨e, by simp [pow, e, hp]⟩
theorem powOk_none {c : List (List Int)} {w : List Int} {k : Int} (hp : powTo c w k.toNat = none) : powOk c w k = false := by simp [powOk, hp]
theorem powOk_off {c : List (List Int)} {w : List Int} {k : Int} (h : isWord c w = false ∨ in60 k = false) : powOk c w k = false := by
  rcases h with h | h <;> simp [powOk, h]
theorem pow_le (c : List (List Int)) (w : List Int) (k : Int) : (pow c w k).length ≤ 31 := by
  unfold pow
  split
  · cases h : powTo c w k.toNat with
    | none => simp
    | some l => exact powTo_len h
  · simp

theorem descs_range {v : List Int} {k : Nat} {n : Int} (h : n ∈ descs v k) : 0 ≤ n ∧ n < k := by
  obtain ⟨j, hj, rfl⟩ := List.mem_map.1 h
  have := List.mem_range.1 (List.mem_filter.1 hj).1
  omega
theorem descents_range {c : List (List Int)} {w : List Int} {n : Int} (h : n ∈ leftDescents c w) : 0 ≤ n ∧ n < c.length := by
  unfold leftDescents at h
  split at h
  · exact descs_range h
  · simp at h

def exAt (c : List (List Int)) (w : List Int) (n : Int) (k : Nat) : Bool := decide (imageOf c (del w k) = imageOf c (n :: w))
def exIdx (c : List (List Int)) (w : List Int) (n : Int) : Int :=
  if isReduced c w && decide (n ∈ leftDescents c w) then
    match (List.range w.length).find? (exAt c w n) with
    | some k => k
    | none => -1
  else -1
theorem exIdx_off {c : List (List Int)} {w : List Int} {n : Int} (h : isReduced c w = false ∨ n ∉ leftDescents c w) : exIdx c w n = -1 := by
  rcases h with h | h <;> simp [exIdx, h]
theorem exIdx_at {c : List (List Int)} {w : List Int} {n : Int} {i : Nat} (h : isReduced c w = true) (h2 : n ∈ leftDescents c w) (hi : i < w.length) (he : exAt c w n i = true) (hb : ∀ k, k < i → exAt c w n k = false) : exIdx c w n = i := by
  have : (List.range w.length).find? (exAt c w n) = some i := by
    rw [List.find?_range_eq_some]
    exact ⟨he, by simpa using hi, fun k hk => by simp [hb k hk]⟩
  simp [exIdx, h, h2, this]
theorem exIdx_none {c : List (List Int)} {w : List Int} {n : Int} (hb : ∀ k, k < w.length → exAt c w n k = false) : exIdx c w n = -1 := by
  have : (List.range w.length).find? (exAt c w n) = none := by
    rw [List.find?_range_eq_none]
    intro k hk
    simp [hb k hk]
  unfold exIdx
  rw [this]
  split <;> rfl
theorem lettersOk_cons {c : List (List Int)} {w : List Int} {n : Int} (h : lettersOk c w = true) (h1 : 0 ≤ n ∧ n < c.length) : lettersOk c (n :: w) = true := by
  have hp : isPoint c n = true := by simp [isPoint, inRange]; omega
  simp only [lettersOk, List.all_cons, Bool.and_eq_true] at h ⊢
  exact ⟨hp, h⟩
theorem isReduced_word {c : List (List Int)} {w : List Int} (h : isReduced c w = true) : isWord c w = true := by
  simp only [isReduced, Bool.and_eq_true] at h
  exact h.1

/-- Letters left out at told places, two by two. -/
def replay : List Int → List Int → Option (List Int)
  | x, i :: j :: l => if i < 0 ∨ j ≤ i ∨ (x.length : Int) ≤ j then none else replay (del (del x j) i) l
  | x, _ => some x
def repW (w l : List Int) : List Int := (replay w l).getD w
def repOk (w l : List Int) : Bool := (replay w l).isSome && ((l.length : Int).tmod 2 == 0)
theorem replay_end {x l : List Int} (h : l.length < 2) : replay x l = some x := by
  match l, h with
  | [], _ => rfl
  | [_], _ => rfl
theorem replay_step {x l : List Int} {k : Nat} (h : k + 1 < l.length) : replay x (l.drop k) = if l.getD k 0 < 0 ∨ l.getD (k + 1) 0 ≤ l.getD k 0 ∨ (x.length : Int) ≤ l.getD (k + 1) 0 then none else replay (del (del x (l.getD (k + 1) 0)) (l.getD k 0)) (l.drop (k + 2)) := by
  rw [List.drop_eq_getElem_cons (by omega), List.drop_eq_getElem_cons (by omega), replay]
  have e1 : l.getD k 0 = l[k] := by simp [List.getD, (by omega : k < l.length)]
  have e2 : l.getD (k + 1) 0 = l[k + 1] := by simp [List.getD, h]
  rw [e1, e2]
theorem repW_le (w : List Int) : ∀ (x l : List Int), x.length ≤ w.length → ((replay x l).getD w).length ≤ w.length
  | x, i :: j :: l, h => by
    rw [replay]
    split
    · exact Nat.le_refl _
    · exact repW_le w _ l (Nat.le_trans (del_len _ _) (Nat.le_trans (del_len _ _) h))
  | x, [], h => h
  | x, [_], h => h

/-- Pairs of letters left out, as often as f. -/
def red (c : List (List Int)) : Nat → List Int → List Int → List Int × List Int
  | 0, x, o => (x, o)
  | f + 1, x, o => if (delPair c x).2.2 then red c f (del (del x (delPair c x).2.1) (delPair c x).1) (o ++ [(delPair c x).1, (delPair c x).2.1]) else (x, o)
theorem red_none (c : List (List Int)) (x o : List Int) : red c 0 x o = (x, o) := rfl
theorem red_stop {c : List (List Int)} {f : Nat} {x o : List Int} (h : (delPair c x).2.2 = false) : red c f x o = (x, o) := by
  cases f with
  | zero => rfl
  | succ f => simp [red, h]
theorem red_step {c : List (List Int)} {f : Nat} {x o : List Int} {i j : Int} (h : delPair c x = (i, j, true)) : red c (f + 1) x o = red c f (del (del x j) i) (o ++ [i, j]) := by simp [red, h]
theorem delPair_yes {c : List (List Int)} {x : List Int} (h : (delPair c x).2.2 = true) : isWord c x = true ∧ ∃ i j : Nat, i < j ∧ j < x.length ∧ delPair c x = ((i : Int), (j : Int), true) := by
  cases hw : isWord c x
  · rw [delPair_off hw] at h; cases h
  refine ⟨rfl, ?_⟩
  unfold delPair at h ⊢
  rw [hw] at h ⊢
  simp only [if_true] at h ⊢
  split at h
  · rename_i i hi
    split at h
    · rename_i j hj
      refine ⟨i, j, ?_, ?_, rfl⟩
      · have := List.find?_some hj
        simp only [Bool.and_eq_true, decide_eq_true_eq] at this
        exact this.1
      · exact List.mem_range.1 (List.mem_of_find?_eq_some hj)
    · cases h
  · cases h
theorem del2_length {x : List Int} {i j : Nat} (h1 : i < j) (h2 : j < x.length) : (del (del x (j : Int)) (i : Int)).length = x.length - 2 := by
  rw [del_at, del_at]
  simp
  omega
theorem red_le (c : List (List Int)) : ∀ (f : Nat) (x o : List Int), (red c f x o).1.length ≤ x.length ∧ (red c f x o).2.length ≤ o.length + 2 * f
  | 0, x, o => ⟨Nat.le_refl _, by simp [red]⟩
  | f + 1, x, o => by
    rw [red]
    split
    · have := red_le c f (del (del x (delPair c x).2.1) (delPair c x).1) (o ++ [(delPair c x).1, (delPair c x).2.1])
      have h1 := del_len (del x (delPair c x).2.1) (delPair c x).1
      have h2 := del_len x (delPair c x).2.1
      simp only [List.length_append, List.length_cons, List.length_nil] at this
      omega
    · exact ⟨Nat.le_refl _, Nat.le_add_right _ _⟩


end Go.Proofs.Ytnooeaemjnmkdaa.Hx

namespace Go.Proofs.Ytnooeaemjnmkdaa.Hx
open Go.RowKit
variable {dm : Bool}

theorem mem_take_snoc {l : List Int} {n : Int} {k : Nat} (hk : k < l.length) (h : n ∉ l.take k) (h2 : l.getD k 0 ≠ n) : n ∉ l.take (k + 1) := by
  rw [take_snoc l hk]
  simp only [List.mem_append, List.mem_singleton, not_or]
  exact ⟨h, fun e => h2 e.symm⟩
theorem mem_at {l : List Int} {n : Int} {k : Nat} (hk : k < l.length) (h2 : l.getD k 0 = n) : n ∈ l := by
  have : l[k] = n := by simpa [List.getD, hk] using h2
  rw [← this]
  exact List.getElem_mem hk
theorem two_lit (i j : Int) : [ci i, ci j] = [i, j].map ci := rfl


end Go.Proofs.Ytnooeaemjnmkdaa.Hx
