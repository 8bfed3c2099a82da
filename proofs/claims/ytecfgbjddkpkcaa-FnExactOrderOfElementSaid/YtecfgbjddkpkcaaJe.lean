
/-
  Contracts of sets of points, matrices of some points and determinants, of the program and of the reference.
-/
import Derived.Test.YtecfgbjddkpkcaaJd
namespace Go.Proofs.Ytecfgbjddkpkcaa.Hx
open Go.RowKit
variable {dm : Bool}

theorem del_takeM (m : List (List Int)) (i k : Nat) (hk : k < (m.getD i []).length) : (m.getD i []).take (k + 1) = (m.getD i []).take k ++ [ent m i k] := take_snoc _ hk
theorem sgInt (j : Nat) : ((j : Int).tmod 2 == 1) = decide (sg j = -1) := by
  have e : (j : Int).tmod 2 = ((j % 2 : Nat) : Int) := rfl
  rw [e]
  unfold sg
  by_cases h : j % 2 = 0
  · simp [h]
  · have h2 : j % 2 = 1 := by omega
    simp [h2]


theorem impl_setOf (h : Heap) (m : Nat) (hm : m < 16) : HCalls dm Try.prog 72 [I m] h (fun r h' => ∃ y, r = .s y ∧ Fresh h h' y (setB m)) := by
  refine calls_of_hFun (m := 0) kd_ok mixed Try.func72 rfl (by kernel_rfl) rfl rfl (of_decide_eq_true rfl) ?_; unfold hFun; (conv => whnf)
  refine HLit.empty ?_
  (conv => whnf)
  refine HLoop.intro [4, 3] [6, 7, 8, 9, 12, 13, 14, 15, 16, 17, 18, 19, 20, 3, 10, 11, 4] (by kernel_rfl) (by kernel_rfl) (fun vs h' => ∃ (k : Nat) (z : H0) (r : Nat), vs = [I k, .s z] ∧ k ≤ 4 ∧ Ext h h' ∧ h.length ≤ r ∧ OwnR r h' z (setTo m k)) (fun vs _ => 4 - natAt vs 0) ⟨0, _, h.length, rfl, by omega, Ext.push _ _, Nat.le_refl _, OwnR.push h []⟩ ?_
  rintro vs h' ⟨k, z, r, rfl, hk, E, hr, O⟩
  have hsl := setTo_len m k
  have hE := E.1
  have hdp := div_pos_iff (m := m) (i := k)
  have hdl : m / 2 ^ k ≤ m := Nat.div_le_self _ _
  (conv => whnf)
  refine HShr.bits hm (by omega) ?_
  (conv => whnf)
  refine HIf.dec (fun hpos => ?_) (fun hno => ?_)
  · have hnp := hdp.1 hpos
    have hk4 : k < 4 := by
      by_cases h4 : k = 4
      · subst h4
        exact absurd hm hnp
      · omega
    (conv => whnf)
    refine HShr.bits hm (by omega) ?_
    (conv => whnf)
    refine HAnd.one (by omega) ?_
    (conv => whnf)
    rw [bit_one]
    cases hb : bit m k
    · rw [← setTo_out hb] at O
      refine HIf.no ?_
      (conv => whnf)
      refine HArith.fits (by omega) (by omega) ?_
      (conv => whnf)
      exact ⟨⟨k + 1, z, r, rfl, by omega, E, hr, O⟩, by show 4 - (k + 1) < 4 - k; omega⟩
    · refine HIf.yes ?_
      (conv => whnf)
      refine HLit.one ?_
      (conv => whnf)
      refine ⟨rfl, rfl, HApp.snocR O (by omega) (fun h3 r3 y3 B3 hr3 O3 => ?_)⟩
      rw [← setTo_in hb] at O3
      (conv => whnf)
      refine HArith.fits (by omega) (by omega) ?_
      (conv => whnf)
      exact ⟨⟨k + 1, y3, r3, rfl, by omega, E.but B3 hr, by omega, O3⟩, by show 4 - (k + 1) < 4 - k; omega⟩
  · have hlt : m < 2 ^ k := by
      by_cases hh : m < 2 ^ k
      · exact hh
      · exact absurd (hdp.2 hh) hno
    rw [setTo_all k (by omega) m hlt] at O
    (conv => whnf)
    exact ⟨_, rfl, Fresh.ofRow E O hr⟩

theorem impl_picked (h : Heap) (x0 : H0) (c : List (List Int)) (x1 : H0) (o : List Int) (hx0 : Rows h x0 c) (hx1 : Ints h x1 o) (hC : Cartan c) (ho : ∀ k, k < o.length → 0 ≤ o.getD k 0 ∧ o.getD k 0 < c.length) (hol : o.length ≤ 4) :
    HCalls dm Try.prog 84 [.s x0, .s x1] h (fun r h' => ∃ y, r = .s y ∧ Ext h h' ∧ OwnM h.length h'.length h' y (pick c o)) := by
  have h4 := hC.le
  have hx10 := hx1.ext (Ext.push h [Row.own []])
  refine calls_of_hFun (m := 0) kd_ok mixed Try.func84 rfl (by kernel_rfl) rfl rfl (of_decide_eq_true rfl) ?_; unfold hFun; (conv => whnf)
  refine HLit.empty ?_
  (conv => whnf)
  refine ⟨rfl, hx10.len ?_⟩
  (conv => whnf)
  refine HLoop.intro [14, 5] [15, 16, 17, 7, 18, 8, 19, 20, 21, 22, 23, 24, 10, 25, 26, 27, 28, 29, 30, 31, 32, 33, 34, 8, 35, 21, 36, 37, 38, 39, 5, 40, 14] (by kernel_rfl) (by kernel_rfl) (fun vs h' => ∃ (a : Nat) (z : H0), vs = [I a, .s z] ∧ a ≤ o.length ∧ Ext h h' ∧ OwnM h.length h'.length h' z (pickTo c o a)) (fun vs _ => o.length - natAt vs 0) ⟨0, _, rfl, by omega, Ext.push _ _, OwnM.none h⟩ ?_
  rintro vs h' ⟨a, z, rfl, ha, E, OM⟩
  have hpl := pickTo_len c o a
  have hx1 := hx1.ext E
  (conv => whnf)
  refine HIf.dec (fun hlt => ?_) (fun hge => ?_)
  · have hoa := ho a (by omega)
    obtain ⟨i, hi⟩ : ∃ i : Nat, o.getD a 0 = (i : Int) := ⟨(o.getD a 0).toNat, by omega⟩
    rw [hi] at hoa
    have hir := hC.row i (by omega)
    have Ep := Ext.push h' [Row.own []]
    have hx1p := hx1.ext Ep
    (conv => whnf)
    refine ⟨rfl, Ints.idxN hx1 (by omega) (fun p hp => ?_)⟩
    rw [hi] at hp
    (conv => whnf)
    refine ⟨rfl, hp.load ?_⟩
    (conv => whnf)
    refine HLit.empty ?_
    (conv => whnf)
    refine ⟨rfl, hx1p.len ?_⟩
    (conv => whnf)
    refine HLoop.intro [21, 8] [22, 23, 24, 10, 25, 26, 27, 28, 29, 30, 31, 32, 33, 34, 8, 35, 21] (by kernel_rfl) (by kernel_rfl) (fun vs h2 => ∃ (b : Nat) (y : H0) (r : Nat), vs = [I b, .s y] ∧ b ≤ o.length ∧ Ext h' h2 ∧ h'.length ≤ r ∧ OwnR r h2 y (pickRow c o i b)) (fun vs _ => o.length - natAt vs 0) ⟨0, _, h'.length, rfl, by omega, Ep, Nat.le_refl _, OwnR.push h' []⟩ ?_
    rintro vs h2 ⟨b, y, r, rfl, hb, E2, hr, O⟩
    have hrl := pickRow_len c o i b
    have hE2 := E2.1
    (conv => whnf)
    refine HIf.dec (fun hltb => ?_) (fun hgeb => ?_)
    · have hob := ho b (by omega)
      obtain ⟨j, hj⟩ : ∃ j : Nat, o.getD b 0 = (j : Int) := ⟨(o.getD b 0).toNat, by omega⟩
      rw [hj] at hob
      have hx02 := (hx0.ext E).ext E2
      (conv => whnf)
      refine ⟨rfl, Ints.idxN (hx1.ext E2) (by omega) (fun p2 hp2 => ?_)⟩
      rw [hj] at hp2
      (conv => whnf)
      refine ⟨rfl, hp2.load ?_⟩
      (conv => whnf)
      refine ⟨rfl, Rows.idxN hx02 (by omega) (fun p3 y3 hp3 hy3 => ?_)⟩
      (conv => whnf)
      refine ⟨rfl, hp3.load ?_⟩
      (conv => whnf)
      refine ⟨rfl, Ints.idxN hy3 (by omega) (fun p4 hp4 => ?_)⟩
      (conv => whnf)
      refine ⟨rfl, hp4.load ?_⟩
      rw [ent_eq]
      (conv => whnf)
      refine HLit.one ?_
      (conv => whnf)
      refine ⟨rfl, rfl, HApp.snocR O (by omega) (fun h3 r3 y5 B3 hr3 O3 => ?_)⟩
      have es : pickRow c o i (b + 1) = pickRow c o i b ++ [ent c i j] := by rw [pickRow_succ, hj]; rfl
      rw [← es] at O3
      (conv => whnf)
      refine HArith.fits (by omega) (by omega) ?_
      (conv => whnf)
      exact ⟨⟨b + 1, y5, r3, rfl, by omega, E2.but B3 hr, by omega, O3⟩, by show o.length - (b + 1) < o.length - b; omega⟩
    · have e : b = o.length := by omega
      subst e
      have er : pickTo c o (a + 1) = pickTo c o a ++ [pickRow c o i o.length] := by rw [pickTo_succ, hi]; rfl
      have F := O.own hr
      (conv => whnf)
      refine HLit.row F.one ?_
      (conv => whnf)
      refine ⟨rfl, rfl, HApp.snocM E OM E2 F (by omega) (fun h5 y5 E5 O5 => ?_)⟩
      rw [← er] at O5
      (conv => whnf)
      refine HArith.fits (by omega) (by omega) ?_
      (conv => whnf)
      exact ⟨⟨a + 1, y5, rfl, by omega, E5, O5⟩, by show o.length - (a + 1) < o.length - a; omega⟩
  · have e : a = o.length := by omega
    subst e
    (conv => whnf)
    exact ⟨_, rfl, E, OM⟩

theorem impl_determinant : ∀ (n : Nat), n ≤ 4 → ∀ (h : Heap) (x : H0) (m : List (List Int)), Rows h x m → Sq n m → HCalls dm Try.prog 83 [.s x] h (fun r h' => r = I (detZ n m) ∧ Ext h h') := by
  intro n
  induction n with
  | zero =>
    intro _ h x m hx S
    have hl := S.len
    refine calls_of_hFun (m := 0) kd_ok mixed Try.func83 rfl (by kernel_rfl) rfl rfl (of_decide_eq_true rfl) ?_; unfold hFun; (conv => whnf)
    refine ⟨rfl, hx.len ?_⟩
    (conv => whnf)
    refine HIf.beqT (by omega) ?_
    (conv => whnf)
    exact ⟨rfl, Ext.refl _⟩
  | succ n ih =>
    intro hn h x m hx S
    have hl := S.len
    have hr0 := S.row 0 (by omega)
    rw [detZ_succ]
    refine calls_of_hFun (m := 0) kd_ok mixed Try.func83 rfl (by kernel_rfl) rfl rfl (of_decide_eq_true rfl) ?_; unfold hFun; (conv => whnf)
    refine ⟨rfl, hx.len ?_⟩
    (conv => whnf)
    refine HIf.beqF (by omega) ?_
    (conv => whnf)
    refine ⟨rfl, Rows.idxN (n := 0) hx (by omega) (fun p y hp hy => ?_)⟩
    (conv => whnf)
    refine ⟨rfl, hp.load ?_⟩
    (conv => whnf)
    refine ⟨rfl, hy.len ?_⟩
    (conv => whnf)
    refine HLoop.intro [17, 3, 4] [18, 19, 20, 21, 5, 6, 22, 23, 24, 7, 25, 26, 27, 28, 29, 30, 31, 9, 32, 33, 34, 35, 36, 37, 38, 39, 40, 41, 42, 43, 44, 7, 45, 28, 46, 47, 48, 49, 50, 51, 52, 53, 3, 54, 55, 4, 56, 17] (by kernel_rfl) (by kernel_rfl) (fun vs h' => ∃ j : Nat, vs = [I j, I (sumTo (term n m) j), I (sg j)] ∧ j ≤ n + 1 ∧ Ext h h') (fun vs _ => n + 1 - natAt vs 0) ⟨0, rfl, by omega, Ext.refl _⟩ ?_
    rintro vs h' ⟨j, rfl, hj, E⟩
    have hsum := sum_small (by omega) S hj
    have hsg := sg_cases j
    have hsgs := sg_succ j
    (conv => whnf)
    refine HIf.dec (fun hlt => ?_) (fun hge => ?_)
    · have hts := term_small (by omega) S (j := j) (by omega)
      have hxl := S.low 0 j (by omega) (by omega)
      have hsum2 := sum_small (by omega) S (k := j + 1) (by omega)
      have hss := sumTo_succ (term n m) j
      (conv => whnf)
      refine ⟨rfl, Ints.idxN (hy.ext E) (by omega) (fun p2 hp2 => ?_)⟩
      (conv => whnf)
      refine ⟨rfl, hp2.load ?_⟩
      rw [ent_eq]
      (conv => whnf)
      refine HIf.bne (fun hne => ?_) (fun heq => ?_)
      · have E0 := Ext.push h' [Row.own []]
        have hx1 := (hx.ext E).ext E0
        (conv => whnf)
        refine HLit.empty ?_
        (conv => whnf)
        refine ⟨rfl, Rows.drop1 hx1 (by omega) (fun y3 hy3 => ?_)⟩
        have hy31 := hy3 _ hx1
        (conv => whnf)
        refine ⟨rfl, hy31.len ?_⟩
        have hdl : (m.drop 1).length = n := by simp; omega
        (conv => whnf)
        refine HLoop.intro [28, 7] [29, 30, 31, 9, 32, 33, 34, 35, 36, 37, 38, 39, 40, 41, 42, 43, 44, 7, 45, 28] (by kernel_rfl) (by kernel_rfl) (fun vs h2 => ∃ (t : Nat) (z : H0), vs = [I t, .s z] ∧ t ≤ n ∧ Ext h' h2 ∧ OwnM h'.length h2.length h2 z (minTo m j t)) (fun vs _ => n - natAt vs 0) ⟨0, _, rfl, by omega, E0, OwnM.none h'⟩ ?_
        rintro vs h2 ⟨t, z, rfl, ht, E2, OM⟩
        have hml := minTo_len m j t
        (conv => whnf)
        refine HIf.dec (fun hltt => ?_) (fun hget => ?_)
        · have hgd : (m.drop 1).getD t [] = m.getD (t + 1) [] := by
            simp only [List.getD, List.getElem?_drop]
            rw [Nat.add_comm]
          have hrt := S.row (t + 1) (by omega)
          have hrt' : (m[t + 1]?.getD []).length = n + 1 := hrt
          have hx2 := hx.ext (E.trans E2)
          have hE2 := E2.1
          (conv => whnf)
          refine ⟨rfl, Rows.idxN (hy3 _ hx2) (by omega) (fun p3 y5 hp3 hy5 => ?_)⟩
          rw [hgd] at hy5
          (conv => whnf)
          refine ⟨rfl, hp3.load ?_⟩
          (conv => whnf)
          refine Or.inr (Or.inr (Or.inl (Exists.intro 5 (Exists.intro [0, 2, 3, 4, 6, 7, 8, 9] (Exists.intro [1, 5, 10, 11, 12, 13] (And.intro (show heldOk _ _ _ _ = true by kernel_rfl) ?_)))))); (conv => whnf)
          refine ⟨rfl, Ints.take hy5 j (by omega) (fun y6 hy6 => ?_)⟩
          (conv => whnf)
          refine HArith.to (e' := ((j + 1 : Nat) : Int)) (by omega) (by omega) (by omega) ?_
          (conv => whnf)
          refine ⟨rfl, Ints.slice hy5 (j + 1) (m.getD (t + 1) []).length (Or.inr rfl) (Or.inl ⟨rfl, rfl⟩) (by omega) (Nat.le_refl _) (fun y7 hy7 => ?_)⟩
          rw [List.take_length] at hy7
          have E3 := Ext.push h2 [Row.own []]
          (conv => whnf)
          refine HLit.empty ?_
          (conv => whnf)
          refine ⟨rfl, rfl, HApp.moreR (OwnR.push h2 []) (hy6.ext E3) (by simp; omega) (fun h4 r4 y8 B4 hr4 O4 => ?_)⟩
          have E4 := E3.but B4 (Nat.le_refl _)
          have hE3 := E3.1
          rw [List.nil_append] at O4
          (conv => whnf)
          refine ⟨rfl, rfl, HApp.moreR O4 (hy7.ext E4) (by simp; omega) (fun h5 r5 y9 B5 hr5 O5 => ?_)⟩
          have E5 := E4.but B5 (by omega)
          have hE4 := E4.1
          rw [← del_at] at O5
          have F := O5.own (show h2.length ≤ r5 by omega)
          (conv => whnf)
          refine HLit.row F.one ?_
          (conv => whnf)
          refine ⟨rfl, rfl, HApp.snocM E2 OM E5 F (by omega) (fun h6 y10 E6 O6 => ?_)⟩
          rw [← minTo_succ] at O6
          (conv => whnf)
          refine HArith.fits (by omega) (by omega) ?_
          (conv => whnf)
          exact ⟨⟨t + 1, y10, rfl, by omega, E6, O6⟩, by show n - (t + 1) < n - t; omega⟩
        · have e : t = n := by omega
          subst e
          have b1 : -3 ≤ sg j * ent m 0 j ∧ sg j * ent m 0 j ≤ 3 := by rcases sg_mul (x := ent m 0 j) hsg with e | e <;> rw [e] <;> omega
          (conv => whnf)
          refine HArith.fits (by omega) (by omega) ?_
          (conv => whnf)
          refine (ih (by omega) _ _ _ OM.rows (min_sq S (by omega))).mono ?_
          rintro v h4 ⟨rfl, E4⟩
          (conv => whnf)
          refine HArith.to (e' := term t m j) (by unfold term; rw [Int.mul_assoc]) (by omega) (by omega) ?_
          (conv => whnf)
          refine HArith.to (e' := sumTo (term t m) (j + 1)) hss.symm (by omega) (by omega) ?_
          (conv => whnf)
          refine HArith.to (e' := sg (j + 1)) (by omega) (by omega) (by omega) ?_
          (conv => whnf)
          refine HArith.fits (by omega) (by omega) ?_
          (conv => whnf)
          exact ⟨⟨j + 1, rfl, by omega, (E.trans E2).trans E4⟩, by show t + 1 - (j + 1) < t + 1 - j; omega⟩
      · have et : term n m j = 0 := by unfold term; rw [heq]; simp
        have e2 : sumTo (term n m) (j + 1) = sumTo (term n m) j := by rw [hss, et]; omega
        (conv => whnf)
        refine HArith.to (e' := sg (j + 1)) (by omega) (by omega) (by omega) ?_
        (conv => whnf)
        refine HArith.fits (by omega) (by omega) ?_
        (conv => whnf)
        exact ⟨⟨j + 1, by rw [e2]; rfl, by omega, E⟩, by show n + 1 - (j + 1) < n + 1 - j; omega⟩
    · have e : j = n + 1 := by omega
      subst e
      (conv => whnf)
      exact ⟨rfl, E⟩

end Go.Proofs.Ytecfgbjddkpkcaa.Hx
