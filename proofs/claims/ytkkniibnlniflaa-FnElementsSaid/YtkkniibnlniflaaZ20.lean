/-
  Contracts of sets of points, matrices of some points and determinants, of the program and of the reference.
  Contracts of determinants and finite types, of the reference; of finite types, of the program.
  Contracts of finite types, of the program and of the reference.
  Contracts of orders of elements, of the program and of the reference.
  What the laws of exchanges, of elements and of lengths say of words. Plain theory.
-/
import Derived.Test.YtkkniibnlniflaaZ19
namespace Go.Proofs.Ytkkniibnlniflaa.Hx
open Go.RowKit
variable {dm : Bool}

theorem del_takeM (m : List (List Int)) (i k : Nat) (hk : k < (m.getD i []).length) : (m.getD i []).take (k + 1) = (m.getD i []).take k ++ [ent m i k] := take_snoc _ hk
theorem sgInt (j : Nat) : ((j : Int).tmod 2 == 1) = decide (sg j = -1) := by
  have e : (j : Int).tmod 2 = ((j % 2 : Nat) : Int) := rfl
  rw [e]
  unfold sg
  by_cases h : j % 2 = 0
  · simp [h]
  · have h2 : j % 2 = 1 := by omega
    simp [h2]


theorem impl_setOf (h : Heap) (m : Nat) (hm : m < 16) : HCalls dm Try.prog 169 [I m] h (fun r h' => ∃ y, r = .s y ∧ Fresh h h' y (setB m)) := by
  refine calls_of_hFun (m := 0) kd_ok mixed Try.func169 rfl (by kernel_rfl) rfl rfl (of_decide_eq_true rfl) ?_; unfold hFun; (conv => whnf)
  refine HLit.empty ?_
  (conv => whnf)
  refine HLoop.intro [4, 3] [6, 7, 8, 9, 12, 13, 14, 15, 16, 17, 18, 19, 20, 3, 10, 11, 4] (by kernel_rfl) (by kernel_rfl) (fun vs h' => ∃ (k : Nat) (z : H0) (r : Nat), vs = [I k, .s z] ∧ k ≤ 4 ∧ Ext h h' ∧ h.length ≤ r ∧ OwnR r h' z (setTo m k)) (fun vs _ => 4 - natAt vs 0) ⟨0, _, h.length, rfl, by omega, Ext.push _ _, Nat.le_refl _, OwnR.push h []⟩ ?_
  rintro vs h' ⟨k, z, r, rfl, hk, E, hr, O⟩
  have hsl := setTo_len m k
  have hE := E.1
  have hdp := div_pos_iff (m := m) (i := k)
  have hdl : m / 2 ^ k ≤ m := Nat.div_le_self _ _
  (conv => whnf)
  refine HShr.bits hm (by omega) ?_
  (conv => whnf)
  refine HIf.dec (fun hpos => ?_) (fun hno => ?_)
  · have hnp := hdp.1 hpos
    have hk4 : k < 4 := by
      by_cases h4 : k = 4
      · subst h4
        exact absurd hm hnp
      · omega
    (conv => whnf)
    refine HShr.bits hm (by omega) ?_
    (conv => whnf)
    refine HAnd.one (by omega) ?_
    (conv => whnf)
    rw [bit_one]
    cases hb : bit m k
    · rw [← setTo_out hb] at O
      refine HIf.no ?_
      (conv => whnf)
      refine HArith.fits (by omega) (by omega) ?_
      (conv => whnf)
      exact ⟨⟨k + 1, z, r, rfl, by omega, E, hr, O⟩, by show 4 - (k + 1) < 4 - k; omega⟩
    · refine HIf.yes ?_
      (conv => whnf)
      refine HLit.one ?_
      (conv => whnf)
      refine ⟨rfl, rfl, HApp.snocR O (by omega) (fun h3 r3 y3 B3 hr3 O3 => ?_)⟩
      rw [← setTo_in hb] at O3
      (conv => whnf)
      refine HArith.fits (by omega) (by omega) ?_
      (conv => whnf)
      exact ⟨⟨k + 1, y3, r3, rfl, by omega, E.but B3 hr, by omega, O3⟩, by show 4 - (k + 1) < 4 - k; omega⟩
  · have hlt : m < 2 ^ k := by
      by_cases hh : m < 2 ^ k
      · exact hh
      · exact absurd (hdp.2 hh) hno
    rw [setTo_all k (by omega) m hlt] at O
    (conv => whnf)
    exact ⟨_, rfl, Fresh.ofRow E O hr⟩

theorem impl_picked (h : Heap) (x0 : H0) (c : List (List Int)) (x1 : H0) (o : List Int) (hx0 : Rows h x0 c) (hx1 : Ints h x1 o) (hC : Cartan c) (ho : ∀ k, k < o.length → 0 ≤ o.getD k 0 ∧ o.getD k 0 < c.length) (hol : o.length ≤ 4) :
    HCalls dm Try.prog 181 [.s x0, .s x1] h (fun r h' => ∃ y, r = .s y ∧ Ext h h' ∧ OwnM h.length h'.length h' y (pick c o)) := by
  have h4 := hC.le
  have hx10 := hx1.ext (Ext.push h [Row.own []])
  refine calls_of_hFun (m := 0) kd_ok mixed Try.func181 rfl (by kernel_rfl) rfl rfl (of_decide_eq_true rfl) ?_; unfold hFun; (conv => whnf)
  refine HLit.empty ?_
  (conv => whnf)
  refine ⟨rfl, hx10.len ?_⟩
  (conv => whnf)
  refine HLoop.intro [14, 5] [15, 16, 17, 7, 18, 8, 19, 20, 21, 22, 23, 24, 10, 25, 26, 27, 28, 29, 30, 31, 32, 33, 34, 8, 35, 21, 36, 37, 38, 39, 5, 40, 14] (by kernel_rfl) (by kernel_rfl) (fun vs h' => ∃ (a : Nat) (z : H0), vs = [I a, .s z] ∧ a ≤ o.length ∧ Ext h h' ∧ OwnM h.length h'.length h' z (pickTo c o a)) (fun vs _ => o.length - natAt vs 0) ⟨0, _, rfl, by omega, Ext.push _ _, OwnM.none h⟩ ?_
  rintro vs h' ⟨a, z, rfl, ha, E, OM⟩
  have hpl := pickTo_len c o a
  have hx1 := hx1.ext E
  (conv => whnf)
  refine HIf.dec (fun hlt => ?_) (fun hge => ?_)
  · have hoa := ho a (by omega)
    obtain ⟨i, hi⟩ : ∃ i : Nat, o.getD a 0 = (i : Int) := ⟨(o.getD a 0).toNat, by omega⟩
    rw [hi] at hoa
    have hir := hC.row i (by omega)
    have Ep := Ext.push h' [Row.own []]
    have hx1p := hx1.ext Ep
    (conv => whnf)
    refine ⟨rfl, Ints.idxN hx1 (by omega) (fun p hp => ?_)⟩
    rw [hi] at hp
    (conv => whnf)
    refine ⟨rfl, hp.load ?_⟩
    (conv => whnf)
    refine HLit.empty ?_
    (conv => whnf)
    refine ⟨rfl, hx1p.len ?_⟩
    (conv => whnf)
    refine HLoop.intro [21, 8] [22, 23, 24, 10, 25, 26, 27, 28, 29, 30, 31, 32, 33, 34, 8, 35, 21] (by kernel_rfl) (by kernel_rfl) (fun vs h2 => ∃ (b : Nat) (y : H0) (r : Nat), vs = [I b, .s y] ∧ b ≤ o.length ∧ Ext h' h2 ∧ h'.length ≤ r ∧ OwnR r h2 y (pickRow c o i b)) (fun vs _ => o.length - natAt vs 0) ⟨0, _, h'.length, rfl, by omega, Ep, Nat.le_refl _, OwnR.push h' []⟩ ?_
    rintro vs h2 ⟨b, y, r, rfl, hb, E2, hr, O⟩
    have hrl := pickRow_len c o i b
    have hE2 := E2.1
    (conv => whnf)
    refine HIf.dec (fun hltb => ?_) (fun hgeb => ?_)
    · have hob := ho b (by omega)
      obtain ⟨j, hj⟩ : ∃ j : Nat, o.getD b 0 = (j : Int) := ⟨(o.getD b 0).toNat, by omega⟩
      rw [hj] at hob
      have hx02 := (hx0.ext E).ext E2
      (conv => whnf)
      refine ⟨rfl, Ints.idxN (hx1.ext E2) (by omega) (fun p2 hp2 => ?_)⟩
      rw [hj] at hp2
      (conv => whnf)
      refine ⟨rfl, hp2.load ?_⟩
      (conv => whnf)
      refine ⟨rfl, Rows.idxN hx02 (by omega) (fun p3 y3 hp3 hy3 => ?_)⟩
      (conv => whnf)
      refine ⟨rfl, hp3.load ?_⟩
      (conv => whnf)
      refine ⟨rfl, Ints.idxN hy3 (by omega) (fun p4 hp4 => ?_)⟩
      (conv => whnf)
      refine ⟨rfl, hp4.load ?_⟩
      rw [ent_eq]
      (conv => whnf)
      refine HLit.one ?_
      (conv => whnf)
      refine ⟨rfl, rfl, HApp.snocR O (by omega) (fun h3 r3 y5 B3 hr3 O3 => ?_)⟩
      have es : pickRow c o i (b + 1) = pickRow c o i b ++ [ent c i j] := by rw [pickRow_succ, hj]; rfl
      rw [← es] at O3
      (conv => whnf)
      refine HArith.fits (by omega) (by omega) ?_
      (conv => whnf)
      exact ⟨⟨b + 1, y5, r3, rfl, by omega, E2.but B3 hr, by omega, O3⟩, by show o.length - (b + 1) < o.length - b; omega⟩
    · have e : b = o.length := by omega
      subst e
      have er : pickTo c o (a + 1) = pickTo c o a ++ [pickRow c o i o.length] := by rw [pickTo_succ, hi]; rfl
      have F := O.own hr
      (conv => whnf)
      refine HLit.row F.one ?_
      (conv => whnf)
      refine ⟨rfl, rfl, HApp.snocM E OM E2 F (by omega) (fun h5 y5 E5 O5 => ?_)⟩
      rw [← er] at O5
      (conv => whnf)
      refine HArith.fits (by omega) (by omega) ?_
      (conv => whnf)
      exact ⟨⟨a + 1, y5, rfl, by omega, E5, O5⟩, by show o.length - (a + 1) < o.length - a; omega⟩
  · have e : a = o.length := by omega
    subst e
    (conv => whnf)
    exact ⟨_, rfl, E, OM⟩

theorem impl_determinant : ∀ (n : Nat), n ≤ 4 → ∀ (h : Heap) (x : H0) (m : List (List Int)), Rows h x m → Sq n m → HCalls dm Try.prog 180 [.s x] h (fun r h' => r = I (detZ n m) ∧ Ext h h') := by
  intro n
  induction n with
  | zero =>
    intro _ h x m hx S
    have hl := S.len
    refine calls_of_hFun (m := 0) kd_ok mixed Try.func180 rfl (by kernel_rfl) rfl rfl (of_decide_eq_true rfl) ?_; unfold hFun; (conv => whnf)
    refine ⟨rfl, hx.len ?_⟩
    (conv => whnf)
    refine HIf.beqT (by omega) ?_
    (conv => whnf)
    exact ⟨rfl, Ext.refl _⟩
  | succ n ih =>
    intro hn h x m hx S
    have hl := S.len
    have hr0 := S.row 0 (by omega)
    rw [detZ_succ]
    refine calls_of_hFun (m := 0) kd_ok mixed Try.func180 rfl (by kernel_rfl) rfl rfl (of_decide_eq_true rfl) ?_; unfold hFun; (conv => whnf)
    refine ⟨rfl, hx.len ?_⟩
    (conv => whnf)
    refine HIf.beqF (by omega) ?_
    (conv => whnf)
    refine ⟨rfl, Rows.idxN (n := 0) hx (by omega) (fun p y hp hy => ?_)⟩
    (conv => whnf)
    refine ⟨rfl, hp.load ?_⟩
    (conv => whnf)
    refine ⟨rfl, hy.len ?_⟩
    (conv => whnf)
    refine HLoop.intro [17, 3, 4] [18, 19, 20, 21, 5, 6, 22, 23, 24, 7, 25, 26, 27, 28, 29, 30, 31, 9, 32, 33, 34, 35, 36, 37, 38, 39, 40, 41, 42, 43, 44, 7, 45, 28, 46, 47, 48, 49, 50, 51, 52, 53, 3, 54, 55, 4, 56, 17] (by kernel_rfl) (by kernel_rfl) (fun vs h' => ∃ j : Nat, vs = [I j, I (sumTo (term n m) j), I (sg j)] ∧ j ≤ n + 1 ∧ Ext h h') (fun vs _ => n + 1 - natAt vs 0) ⟨0, rfl, by omega, Ext.refl _⟩ ?_
    rintro vs h' ⟨j, rfl, hj, E⟩
    have hsum := sum_small (by omega) S hj
    have hsg := sg_cases j
    have hsgs := sg_succ j
    (conv => whnf)
    refine HIf.dec (fun hlt => ?_) (fun hge => ?_)
    · have hts := term_small (by omega) S (j := j) (by omega)
      have hxl := S.low 0 j (by omega) (by omega)
      have hsum2 := sum_small (by omega) S (k := j + 1) (by omega)
      have hss := sumTo_succ (term n m) j
      (conv => whnf)
      refine ⟨rfl, Ints.idxN (hy.ext E) (by omega) (fun p2 hp2 => ?_)⟩
      (conv => whnf)
      refine ⟨rfl, hp2.load ?_⟩
      rw [ent_eq]
      (conv => whnf)
      refine HIf.bne (fun hne => ?_) (fun heq => ?_)
      · have E0 := Ext.push h' [Row.own []]
        have hx1 := (hx.ext E).ext E0
        (conv => whnf)
        refine HLit.empty ?_
        (conv => whnf)
        refine ⟨rfl, Rows.drop1 hx1 (by omega) (fun y3 hy3 => ?_)⟩
        have hy31 := hy3 _ hx1
        (conv => whnf)
        refine ⟨rfl, hy31.len ?_⟩
        have hdl : (m.drop 1).length = n := by simp; omega
        (conv => whnf)
        refine HLoop.intro [28, 7] [29, 30, 31, 9, 32, 33, 34, 35, 36, 37, 38, 39, 40, 41, 42, 43, 44, 7, 45, 28] (by kernel_rfl) (by kernel_rfl) (fun vs h2 => ∃ (t : Nat) (z : H0), vs = [I t, .s z] ∧ t ≤ n ∧ Ext h' h2 ∧ OwnM h'.length h2.length h2 z (minTo m j t)) (fun vs _ => n - natAt vs 0) ⟨0, _, rfl, by omega, E0, OwnM.none h'⟩ ?_
        rintro vs h2 ⟨t, z, rfl, ht, E2, OM⟩
        have hml := minTo_len m j t
        (conv => whnf)
        refine HIf.dec (fun hltt => ?_) (fun hget => ?_)
        · have hgd : (m.drop 1).getD t [] = m.getD (t + 1) [] := by
            simp only [List.getD, List.getElem?_drop]
            rw [Nat.add_comm]
          have hrt := S.row (t + 1) (by omega)
          have hrt' : (m[t + 1]?.getD []).length = n + 1 := hrt
          have hx2 := hx.ext (E.trans E2)
          have hE2 := E2.1
          (conv => whnf)
          refine ⟨rfl, Rows.idxN (hy3 _ hx2) (by omega) (fun p3 y5 hp3 hy5 => ?_)⟩
          rw [hgd] at hy5
          (conv => whnf)
          refine ⟨rfl, hp3.load ?_⟩
          (conv => whnf)
          refine Or.inr (Or.inr (Or.inl (Exists.intro 5 (Exists.intro [0, 2, 3, 4, 6, 7, 8, 9] (Exists.intro [1, 5, 10, 11, 12, 13] (And.intro (show heldOk _ _ _ _ = true by kernel_rfl) ?_)))))); (conv => whnf)
          refine ⟨rfl, Ints.take hy5 j (by omega) (fun y6 hy6 => ?_)⟩
          (conv => whnf)
          refine HArith.to (e' := ((j + 1 : Nat) : Int)) (by omega) (by omega) (by omega) ?_
          (conv => whnf)
          refine ⟨rfl, Ints.slice hy5 (j + 1) (m.getD (t + 1) []).length (Or.inr rfl) (Or.inl ⟨rfl, rfl⟩) (by omega) (Nat.le_refl _) (fun y7 hy7 => ?_)⟩
          rw [List.take_length] at hy7
          have E3 := Ext.push h2 [Row.own []]
          (conv => whnf)
          refine HLit.empty ?_
          (conv => whnf)
          refine ⟨rfl, rfl, HApp.moreR (OwnR.push h2 []) (hy6.ext E3) (by simp; omega) (fun h4 r4 y8 B4 hr4 O4 => ?_)⟩
          have E4 := E3.but B4 (Nat.le_refl _)
          have hE3 := E3.1
          rw [List.nil_append] at O4
          (conv => whnf)
          refine ⟨rfl, rfl, HApp.moreR O4 (hy7.ext E4) (by simp; omega) (fun h5 r5 y9 B5 hr5 O5 => ?_)⟩
          have E5 := E4.but B5 (by omega)
          have hE4 := E4.1
          rw [← del_at] at O5
          have F := O5.own (show h2.length ≤ r5 by omega)
          (conv => whnf)
          refine HLit.row F.one ?_
          (conv => whnf)
          refine ⟨rfl, rfl, HApp.snocM E2 OM E5 F (by omega) (fun h6 y10 E6 O6 => ?_)⟩
          rw [← minTo_succ] at O6
          (conv => whnf)
          refine HArith.fits (by omega) (by omega) ?_
          (conv => whnf)
          exact ⟨⟨t + 1, y10, rfl, by omega, E6, O6⟩, by show n - (t + 1) < n - t; omega⟩
        · have e : t = n := by omega
          subst e
          have b1 : -3 ≤ sg j * ent m 0 j ∧ sg j * ent m 0 j ≤ 3 := by rcases sg_mul (x := ent m 0 j) hsg with e | e <;> rw [e] <;> omega
          (conv => whnf)
          refine HArith.fits (by omega) (by omega) ?_
          (conv => whnf)
          refine (ih (by omega) _ _ _ OM.rows (min_sq S (by omega))).mono ?_
          rintro v h4 ⟨rfl, E4⟩
          (conv => whnf)
          refine HArith.to (e' := term t m j) (by unfold term; rw [Int.mul_assoc]) (by omega) (by omega) ?_
          (conv => whnf)
          refine HArith.to (e' := sumTo (term t m) (j + 1)) hss.symm (by omega) (by omega) ?_
          (conv => whnf)
          refine HArith.to (e' := sg (j + 1)) (by omega) (by omega) (by omega) ?_
          (conv => whnf)
          refine HArith.fits (by omega) (by omega) ?_
          (conv => whnf)
          exact ⟨⟨j + 1, rfl, by omega, (E.trans E2).trans E4⟩, by show t + 1 - (j + 1) < t + 1 - j; omega⟩
      · have et : term n m j = 0 := by unfold term; rw [heq]; simp
        have e2 : sumTo (term n m) (j + 1) = sumTo (term n m) j := by rw [hss, et]; omega
        (conv => whnf)
        refine HArith.to (e' := sg (j + 1)) (by omega) (by omega) (by omega) ?_
        (conv => whnf)
        refine HArith.fits (by omega) (by omega) ?_
        (conv => whnf)
        exact ⟨⟨j + 1, by rw [e2]; rfl, by omega, E⟩, by show n + 1 - (j + 1) < n + 1 - j; omega⟩
    · have e : j = n + 1 := by omega
      subst e
      (conv => whnf)
      exact ⟨rfl, E⟩

end Go.Proofs.Ytkkniibnlniflaa.Hx

namespace Go.Proofs.Ytkkniibnlniflaa.Hx
open Go.RowKit
variable {dm : Bool}

theorem term_odd {n j : Nat} {m : List (List Int)} (h : sg j = -1) : term n m j = 0 - ent m 0 j * detZ n (minTo m j n) := by
  unfold term
  rw [h]
  omega
theorem term_even {n j : Nat} {m : List (List Int)} (h : ¬ sg j = -1) : term n m j = ent m 0 j * detZ n (minTo m j n) := by
  have h1 : sg j = 1 := by have := sg_cases j; omega
  unfold term
  rw [h1]
  omega


end Go.Proofs.Ytkkniibnlniflaa.Hx

namespace Go.Proofs.Ytkkniibnlniflaa.Hx
open Go.RowKit
variable {dm : Bool}

def minorsTo (c : List (List Int)) (k : Nat) : List Int := (List.range k).map fun t => dt c (t + 1)
theorem minorsTo_none (c : List (List Int)) : minorsTo c 0 = [] := rfl
theorem minorsTo_len (c : List (List Int)) (k : Nat) : (minorsTo c k).length = k := by simp [minorsTo]
theorem minorsTo_succ (c : List (List Int)) (k : Nat) : minorsTo c (k + 1) = minorsTo c k ++ [dt c (k + 1)] := by
  unfold minorsTo
  rw [List.range_succ, List.map_append]
  rfl
theorem minorsTo_get {c : List (List Int)} {k n : Nat} (h : k < n) : (minorsTo c n).getD k 0 = dt c (k + 1) := by simp [minorsTo, List.getD, h]
def setsTo (k : Nat) : List (List Int) := (List.range k).map fun t => setB (t + 1)
theorem setsTo_none : setsTo 0 = [] := rfl
theorem setsTo_len (k : Nat) : (setsTo k).length = k := by simp [setsTo]
theorem setsTo_succ (k : Nat) : setsTo (k + 1) = setsTo k ++ [setB (k + 1)] := by
  unfold setsTo
  rw [List.range_succ, List.map_append]
  rfl
theorem setsTo_get {k n : Nat} (h : k < n) : (setsTo n).getD k [] = setB (k + 1) := by simp [setsTo, List.getD, h]
theorem isFinite_off {c : List (List Int)} (h : isCartan c = false) : isFinite c = false := by simp [isFinite, h]
theorem isFinite_on {c : List (List Int)} (h : isCartan c = true) {l : List Int} (hl : l.length = 0 ↔ allPos c = true) : ((l.length : Int) == 0) = isFinite c := by
  have e : isFinite c = allPos c := by simp [isFinite, h]
  rw [e]
  by_cases h0 : l.length = 0
  · rw [hl.1 h0]
    exact beq_iff_eq.2 (by omega)
  · have : allPos c = false := by
      rw [Bool.eq_false_iff]
      exact fun e => h0 (hl.2 e)
    rw [this]
    exact beq_eq_false_iff_ne.2 (by omega)
theorem set_len4 (m : Nat) : (setB m).length ≤ 4 := setTo_len m 4


theorem impl_PrincipalMinors (h : Heap) (x : H0) (c : List (List Int)) (hx : Rows h x c) (hic : isCartan c = true) :
    HCalls dm Try.prog 168 [.s x] h (fun r h' => ∃ y, r = .s y ∧ Fresh h h' y (minorsTo c (2 ^ c.length - 1))) := by
  have hC := (isCartan_iff c).1 hic
  have h4 := hC.le
  have h16 := pow_le16 (n := c.length) (by omega)
  have E0 := Ext.push h [Row.own []]
  refine calls_of_hFun (m := 0) kd_ok mixed Try.func168 rfl (by kernel_rfl) rfl rfl (of_decide_eq_true rfl) ?_; unfold hFun; (conv => whnf)
  refine HLit.empty ?_
  (conv => whnf)
  refine (impl_IsCartan _ _ _ (hx.ext E0) (by omega)).mono ?_
  rintro r h1 ⟨rfl, hh⟩
  subst h1
  rw [hic]
  (conv => whnf)
  refine HIf.no ?_
  (conv => whnf)
  refine HLoop.intro [4, 3] [10, 11, 12, 13, 14, 17, 18, 19, 20, 21, 22, 23, 24, 3, 15, 16, 4] (by kernel_rfl) (by kernel_rfl) (fun vs h' => ∃ (k : Nat) (z : H0) (r : Nat), vs = [I ((k + 1 : Nat) : Int), .s z] ∧ k + 1 ≤ 2 ^ c.length ∧ Ext h h' ∧ h.length ≤ r ∧ OwnR r h' z (minorsTo c k)) (fun vs _ => 16 - natAt vs 0) ⟨0, _, h.length, rfl, Nat.one_le_two_pow, E0, Nat.le_refl _, OwnR.push h []⟩ ?_
  rintro vs h' ⟨k, z, r, rfl, hk, E, hr, O⟩
  have hml := minorsTo_len c k
  have hx1 := hx.ext E
  have hE := E.1
  (conv => whnf)
  refine ⟨rfl, hx1.len ?_⟩
  (conv => whnf)
  refine HShl.one (by omega) ?_
  (conv => whnf)
  refine HIf.dec (fun hlt => ?_) (fun hge => ?_)
  · obtain ⟨f1, f2, f3⟩ := setB_fits c.length (by omega) (k + 1) (by omega) (by omega)
    have hs4 := set_len4 (k + 1)
    (conv => whnf)
    refine (impl_setOf _ (k + 1) (by omega)).mono ?_
    rintro v h2 ⟨y2, rfl, g2⟩
    (conv => whnf)
    refine (impl_picked _ _ c _ _ (hx1.ext g2.1) g2.ints hC f2 hs4).mono ?_
    rintro v h3 ⟨y3, rfl, E3, O3⟩
    (conv => whnf)
    refine (impl_determinant _ hs4 _ _ _ O3.rows (pick_sq hC f2)).mono ?_
    rintro v h5 ⟨rfl, E5⟩
    have Eb := (g2.1.trans E3).trans E5
    have hEb := Eb.1
    have es : minorsTo c (k + 1) = minorsTo c k ++ [detZ (setB (k + 1)).length (pick c (setB (k + 1)))] := minorsTo_succ c k
    (conv => whnf)
    refine HLit.one ?_
    (conv => whnf)
    refine ⟨rfl, rfl, HApp.snocR (O.ext Eb) (by omega) (fun h6 r6 y6 B6 hr6 O6 => ?_)⟩
    rw [← es] at O6
    (conv => whnf)
    refine HArith.to (e' := ((k + 1 + 1 : Nat) : Int)) (by omega) (by omega) (by omega) ?_
    (conv => whnf)
    exact ⟨⟨k + 1, y6, r6, rfl, by omega, (E.trans Eb).but B6 hr, by omega, O6⟩, by show 16 - (k + 1 + 1) < 16 - (k + 1); omega⟩
  · have e : 2 ^ c.length - 1 = k := by omega
    rw [e]
    (conv => whnf)
    exact ⟨_, rfl, Fresh.ofRow E O hr⟩

theorem impl_WitnessOf (h : Heap) (x : H0) (c : List (List Int)) (hx : Rows h x c) (hic : isCartan c = true) :
    HCalls dm Try.prog 146 [.s x] h (fun r h' => ∃ (y : H0) (l : List Int), r = .s y ∧ Ext h h' ∧ Ints h' y l ∧ (l.length = 0 ↔ allPos c = true)) := by
  have hC := (isCartan_iff c).1 hic
  have h4 := hC.le
  have h16 := pow_le16 (n := c.length) (by omega)
  refine calls_of_hFun (m := 0) kd_ok mixed Try.func146 rfl (by kernel_rfl) rfl rfl (of_decide_eq_true rfl) ?_; unfold hFun; (conv => whnf)
  refine (impl_PrincipalMinors _ _ c hx hic).mono ?_
  rintro r h1 ⟨y1, rfl, f1⟩
  have hy := f1.ints
  have hml := minorsTo_len c (2 ^ c.length - 1)
  (conv => whnf)
  refine ⟨rfl, hy.len ?_⟩
  rw [hml]
  (conv => whnf)
  refine HLoop.intro [8] [9, 10, 11, 12, 3, 4, 13, 14, 15, 16, 17, 2, 18, 8] (by kernel_rfl) (by kernel_rfl) (fun vs h' => ∃ k : Nat, vs = [I k] ∧ k ≤ 2 ^ c.length - 1 ∧ h' = h1 ∧ ∀ t, t < k → 0 < dt c (t + 1)) (fun vs _ => 16 - natAt vs 0) ⟨0, rfl, by omega, rfl, fun t ht => by omega⟩ ?_
  rintro vs h' ⟨k, rfl, hk, hh, hb⟩
  subst h'
  (conv => whnf)
  refine HIf.dec (fun hlt => ?_) (fun hge => ?_)
  · have hg := minorsTo_get (c := c) (k := k) (n := 2 ^ c.length - 1) (by omega)
    (conv => whnf)
    refine ⟨rfl, Ints.idxN hy (by omega) (fun p hp => ?_)⟩
    rw [hg] at hp
    (conv => whnf)
    refine ⟨rfl, hp.load ?_⟩
    (conv => whnf)
    refine HIf.dec (fun hle => ?_) (fun hpos => ?_)
    · (conv => whnf)
      refine HArith.to (e' := ((k + 1 : Nat) : Int)) (by omega) (by omega) (by omega) ?_
      (conv => whnf)
      refine (impl_setOf _ (k + 1) (by omega)).mono ?_
      rintro v h2 ⟨y2, rfl, g2⟩
      have f1' := (setB_fits c.length (by omega) (k + 1) (by omega) (by omega)).1
      have hap := allPos_not (c := c) (k := k) (by omega) hle
      (conv => whnf)
      exact ⟨_, _, rfl, f1.1.trans g2.1, g2.ints, ⟨fun h => absurd h f1', fun h => by rw [hap] at h; cases h⟩⟩
    · (conv => whnf)
      refine HArith.fits (by omega) (by omega) ?_
      (conv => whnf)
      refine ⟨⟨k + 1, rfl, by omega, rfl, fun t ht => ?_⟩, by show 16 - (k + 1) < 16 - k; omega⟩
      by_cases e : t = k
      · subst e; omega
      · exact hb t (by omega)
  · have hap := allPos_of (c := c) (fun t ht => hb t (by omega))
    (conv => whnf)
    refine HLit.empty ?_
    (conv => whnf)
    exact ⟨_, [], rfl, f1.1.trans (Ext.push _ _), (OwnR.push _ []).ints, ⟨fun _ => hap, fun _ => rfl⟩⟩

theorem impl_IsFinite (h : Heap) (x : H0) (c : List (List Int)) (hx : Rows h x c) (hcl : c.length ≤ 1048576) :
    HCalls dm Try.prog 113 [.s x] h (fun r h' => r = B (isFinite c) ∧ Ext h h') := by
  refine calls_of_hFun (m := 0) kd_ok mixed Try.func113 rfl (by kernel_rfl) rfl rfl (of_decide_eq_true rfl) ?_; unfold hFun; (conv => whnf)
  refine (impl_IsCartan _ _ _ hx (by omega)).mono ?_
  rintro r h1 ⟨rfl, hh⟩
  subst h1
  (conv => whnf)
  cases hic : isCartan c
  · (repeat (first | (refine HIf.no ?_; conv => whnf)))
    exact ⟨bEq (isFinite_off hic), Ext.refl _⟩
  refine HIf.yes ?_
  (conv => whnf)
  refine HIf.yes ?_
  (conv => whnf)
  refine (impl_WitnessOf _ _ c hx hic).mono ?_
  rintro r h1 ⟨y, l, rfl, E, hl, hiff⟩
  have hfin := isFinite_on hic hiff
  (conv => whnf)
  (repeat (first | (refine HIf.yes ?_; conv => whnf) | (refine ⟨rfl, hl.len ?_⟩; conv => whnf)))
  exact ⟨bEq hfin.symm, E⟩

end Go.Proofs.Ytkkniibnlniflaa.Hx

namespace Go.Proofs.Ytkkniibnlniflaa.Hx
open Go.RowKit
variable {dm : Bool}

def ordF (c : List (List Int)) (w : List Int) : Nat → List Int → Nat → Int
  | 0, _, _ => 0
  | f + 1, p, k => if (normF c (p ++ w)).length = 0 then (k : Int) else if 15 < (normF c (p ++ w)).length then 0 else ordF c w f (normF c (p ++ w)) (k + 1)
def ordG (c : List (List Int)) (w : List Int) (f : Nat) (y : List Int) (k : Nat) : Int := if y.length = 0 then (k : Int) else if 15 < y.length then 0 else ordF c w f y (k + 1)
def orderOf (c : List (List Int)) (w : List Int) : Int := if isWord c w && (isFinite c || decide ((normF c w).length ≤ 7)) then ordF c w 60 [] 1 else 0

theorem ordF_none (c : List (List Int)) (w p : List Int) (k : Nat) : ordF c w 0 p k = 0 := rfl
theorem ordF_succ (c : List (List Int)) (w p : List Int) (f k : Nat) : ordF c w (f + 1) p k = ordG c w f (normF c (p ++ w)) k := rfl
theorem ordG_zero {c : List (List Int)} {w y : List Int} {f k : Nat} (h : y.length = 0) : ordG c w f y k = k := by
  unfold ordG
  rw [if_pos h]
theorem ordG_big {c : List (List Int)} {w y : List Int} {f k : Nat} (h : 15 < y.length) : ordG c w f y k = 0 := by
  unfold ordG
  rw [if_neg (by omega), if_pos h]
theorem ordG_next {c : List (List Int)} {w y : List Int} {f k : Nat} (h : y.length ≠ 0) (h2 : ¬ 15 < y.length) : ordG c w f y k = ordF c w f y (k + 1) := by
  unfold ordG
  rw [if_neg h, if_neg h2]
theorem orderOf_off {c : List (List Int)} {w : List Int} (h : isWord c w = false) : orderOf c w = 0 := by simp [orderOf, h]
theorem orderOf_inf {c : List (List Int)} {w : List Int} (h : isFinite c = false) (h2 : ¬ (normF c w).length ≤ 7) : orderOf c w = 0 := by
  have : decide ((normF c w).length ≤ 7) = false := decide_eq_false h2
  unfold orderOf
  rw [h, this, Bool.or_false, Bool.and_false]
  rfl
theorem orderOf_on {c : List (List Int)} {w : List Int} (h : isWord c w = true) (h2 : isFinite c = true ∨ (normF c w).length ≤ 7) : orderOf c w = ordF c w 60 [] 1 := by
  unfold orderOf
  rw [h, Bool.true_and, if_pos]
  rcases h2 with h2 | h2
  · rw [h2]; rfl
  · rw [decide_eq_true h2, Bool.or_true]


theorem impl_OrderOfElement (h : Heap) (x0 : H0) (a0 : List (List Int)) (x1 : H0) (a1 : List Int) (hx0 : Rows h x0 a0) (hx1 : Ints h x1 a1) (s0 : a0.length ≤ 1048576 ∧ tot a0 ≤ 1048576) (s1 : a1.length ≤ 1048576) :
    HCalls dm Try.prog 67 [.s x0, .s x1] h (fun r h' => r = I (orderOf a0 a1) ∧ Ext h h') := by
  obtain ⟨T, hT⟩ : ∃ T, T = orderOf a0 a1 := ⟨_, rfl⟩
  rw [← hT]
  refine calls_of_hFun (m := 0) kd_ok mixed Try.func67 rfl (by kernel_rfl) rfl rfl (of_decide_eq_true rfl) ?_; unfold hFun; (conv => whnf)
  refine (impl_IsWord _ _ _ a0 a1 hx0 hx1 (by omega) (by omega)).mono ?_
  rintro r h1 ⟨rfl, hh⟩
  subst h1
  (conv => whnf)
  cases hic : isWord a0 a1
  · rw [orderOf_off hic] at hT
    subst hT
    (repeat (first | (refine HIf.yes ?_; conv => whnf) | (refine HIf.no ?_; conv => whnf)))
    exact ⟨rfl, Ext.refl _⟩
  obtain ⟨hC, hl, hw⟩ := word_cartan hic
  refine HIf.no ?_
  (conv => whnf)
  refine HIf.no ?_
  (conv => whnf)
  refine (impl_IsFinite _ _ a0 hx0 (by omega)).mono ?_
  rintro r h2 ⟨rfl, E2⟩
  (conv => whnf)
  have bad : isFinite a0 = false → ¬ (normF a0 a1).length ≤ 7 → T = 0 := fun g1 g2 => by rw [hT, orderOf_inf g1 g2]
  have on : (isFinite a0 = true ∨ (normF a0 a1).length ≤ 7) → T = ordF a0 a1 60 [] 1 := fun g => by rw [hT, orderOf_on hic g]
  clear hT
  cases hfin : isFinite a0
  · have hno := bad hfin
    have hyes := fun g => on (Or.inr g)
    (repeat (first | (refine HIf.yes ?_; conv => whnf) | (refine HIf.no ?_; conv => whnf)))
    refine (impl_lengthOf _ _ a0 _ a1 (hx0.ext E2) (hx1.ext E2) hC hw (by omega)).mono ?_
    rintro r h3 ⟨rfl, E3⟩
    have E23 := E2.trans E3
    (conv => whnf)
    (repeat (first | (refine HIf.yes ?_; conv => whnf) | (refine HIf.no ?_; conv => whnf)))
    refine HIf.dec (fun h7 => ?_) (fun h7 => ?_)
    · have e := hno (by omega)
      subst e
      (conv => whnf)
      exact ⟨rfl, E23⟩
    have e := hyes (by omega)
    (conv => whnf)
    refine HLit.empty ?_
    (conv => whnf)
    refine HLoop.intro [6, 5] [23, 24, 27, 28, 29, 30, 31, 5, 32, 33, 34, 35, 4, 36, 37, 38, 4, 25, 26, 6] (by kernel_rfl) (by kernel_rfl) (fun vs h' => ∃ (k : Nat) (y : H0) (l : List Int), vs = [I k, .s y] ∧ 1 ≤ k ∧ k ≤ 61 ∧ Ext h h' ∧ Own h.length h'.length h' y l ∧ l.length ≤ 15 ∧ lettersOk a0 l = true ∧ ordF a0 a1 (61 - k) l k = T) (fun vs _ => 61 - natAt vs 0) ⟨1, _, [], rfl, by omega, by omega, E23.trans (Ext.push _ _), (OwnR.push h3 []).own E23.1, by simp, rfl, e.symm⟩ ?_
    rintro vs h' ⟨k, y, l, rfl, hk1, hk, E, O, hl15, hlw, ho⟩
    (conv => whnf)
    refine HIf.dec (fun hle => ?_) (fun hgt => ?_)
    · obtain ⟨f, hf⟩ : ∃ f, 61 - k = f + 1 := ⟨60 - k, by omega⟩
      rw [hf, ordF_succ] at ho
      have hla : lettersOk a0 (l ++ a1) = true := by rw [lettersOk_app, hlw, hw]; rfl
      have hlen : (l ++ a1).length ≤ 30 := by rw [List.length_append]; omega
      have hnl := normF_letters hC hla hlen
      (conv => whnf)
      refine (impl_ConcatWords _ _ l _ a1 O.ints (hx1.ext E) (by omega) s1).mono ?_
      rintro r h5 ⟨y5, rfl, E5, hy5⟩
      (conv => whnf)
      refine (impl_reduced _ _ a0 _ _ ((hx0.ext E).ext E5) hy5 hC hla hlen).mono ?_
      rintro r h6 ⟨y6, rfl, f6⟩
      have hz := Fresh.inner (E.trans E5) f6
      have hy6 := f6.ints
      generalize normF a0 (l ++ a1) = q at *
      (conv => whnf)
      refine ⟨rfl, hy6.len ?_⟩
      (conv => whnf)
      refine HIf.beq (fun h0 => ?_) (fun h0 => ?_)
      · rw [ordG_zero (by omega)] at ho
        subst ho
        (conv => whnf)
        exact ⟨rfl, hz.1⟩
      (conv => whnf)
      refine ⟨rfl, hy6.len ?_⟩
      (conv => whnf)
      refine HIf.dec (fun h15 => ?_) (fun h15 => ?_)
      · rw [ordG_big (by omega)] at ho
        subst ho
        (conv => whnf)
        exact ⟨rfl, hz.1⟩
      · rw [ordG_next (by omega) (by omega)] at ho
        (conv => whnf)
        refine HArith.fits (by omega) (by omega) ?_
        (conv => whnf)
        exact ⟨⟨k + 1, y6, q, rfl, by omega, by omega, hz.1, hz.2, by omega, hnl, by rw [← ho]; congr 1; omega⟩, by show 61 - (k + 1) < 61 - k; omega⟩
    · have ek : k = 61 := by omega
      subst ek
      rw [ordF_none] at ho
      subst ho
      (conv => whnf)
      exact ⟨rfl, E⟩
  · have e := on (Or.inl hfin)
    (repeat (first | (refine HIf.yes ?_; conv => whnf) | (refine HIf.no ?_; conv => whnf)))
    refine HLit.empty ?_
    (conv => whnf)
    refine HLoop.intro [6, 5] [23, 24, 27, 28, 29, 30, 31, 5, 32, 33, 34, 35, 4, 36, 37, 38, 4, 25, 26, 6] (by kernel_rfl) (by kernel_rfl) (fun vs h' => ∃ (k : Nat) (y : H0) (l : List Int), vs = [I k, .s y] ∧ 1 ≤ k ∧ k ≤ 61 ∧ Ext h h' ∧ Own h.length h'.length h' y l ∧ l.length ≤ 15 ∧ lettersOk a0 l = true ∧ ordF a0 a1 (61 - k) l k = T) (fun vs _ => 61 - natAt vs 0) ⟨1, _, [], rfl, by omega, by omega, E2.trans (Ext.push _ _), (OwnR.push h2 []).own E2.1, by simp, rfl, e.symm⟩ ?_
    rintro vs h' ⟨k, y, l, rfl, hk1, hk, E, O, hl15, hlw, ho⟩
    (conv => whnf)
    refine HIf.dec (fun hle => ?_) (fun hgt => ?_)
    · obtain ⟨f, hf⟩ : ∃ f, 61 - k = f + 1 := ⟨60 - k, by omega⟩
      rw [hf, ordF_succ] at ho
      have hla : lettersOk a0 (l ++ a1) = true := by rw [lettersOk_app, hlw, hw]; rfl
      have hlen : (l ++ a1).length ≤ 30 := by rw [List.length_append]; omega
      have hnl := normF_letters hC hla hlen
      (conv => whnf)
      refine (impl_ConcatWords _ _ l _ a1 O.ints (hx1.ext E) (by omega) s1).mono ?_
      rintro r h5 ⟨y5, rfl, E5, hy5⟩
      (conv => whnf)
      refine (impl_reduced _ _ a0 _ _ ((hx0.ext E).ext E5) hy5 hC hla hlen).mono ?_
      rintro r h6 ⟨y6, rfl, f6⟩
      have hz := Fresh.inner (E.trans E5) f6
      have hy6 := f6.ints
      generalize normF a0 (l ++ a1) = q at *
      (conv => whnf)
      refine ⟨rfl, hy6.len ?_⟩
      (conv => whnf)
      refine HIf.beq (fun h0 => ?_) (fun h0 => ?_)
      · rw [ordG_zero (by omega)] at ho
        subst ho
        (conv => whnf)
        exact ⟨rfl, hz.1⟩
      (conv => whnf)
      refine ⟨rfl, hy6.len ?_⟩
      (conv => whnf)
      refine HIf.dec (fun h15 => ?_) (fun h15 => ?_)
      · rw [ordG_big (by omega)] at ho
        subst ho
        (conv => whnf)
        exact ⟨rfl, hz.1⟩
      · rw [ordG_next (by omega) (by omega)] at ho
        (conv => whnf)
        refine HArith.fits (by omega) (by omega) ?_
        (conv => whnf)
        exact ⟨⟨k + 1, y6, q, rfl, by omega, by omega, hz.1, hz.2, by omega, hnl, by rw [← ho]; congr 1; omega⟩, by show 61 - (k + 1) < 61 - k; omega⟩
    · have ek : k = 61 := by omega
      subst ek
      rw [ordF_none] at ho
      subst ho
      (conv => whnf)
      exact ⟨rfl, E⟩

end Go.Proofs.Ytkkniibnlniflaa.Hx

namespace Go.Proofs.Ytkkniibnlniflaa.Hx
open Go.RowKit

theorem word_iff {c : List (List Int)} {w : List Int} : isWord c w = true ↔ Cartan c ∧ w.length ≤ 15 ∧ lettersOk c w = true := by
  simp only [isWord, Bool.and_eq_true, decide_eq_true_eq, isCartan_iff, and_assoc]

theorem red_of {c : List (List Int)} {w : List Int} (h : isReduced c w = true) : Cartan c ∧ w.length ≤ 15 ∧ lettersOk c w = true ∧ PlayL c w.length (imageOf c w) := by
  have hw := isReduced_word h
  obtain ⟨P, _, _⟩ := normF_red hw
  simp only [isReduced, Bool.and_eq_true, decide_eq_true_eq] at h
  rw [h.2] at P
  obtain ⟨a, b, d⟩ := word_iff.1 hw
  exact ⟨a, b, d, P⟩

theorem normF_play {c : List (List Int)} {w : List Int} {n : Nat} (hC : Cartan c) (P : PlayL c n (imageOf c w)) (hn : n ≤ 30) : (normF c w).length = n := nf_len hC n _ 31 P hn (by omega)

theorem del_nat (w : List Int) (k : Nat) : del w (k : Int) = w.eraseIdx k := by simp [del]
theorem del_minus (w : List Int) : del w (-1) = w := by simp [del]

theorem mem_left {c : List (List Int)} {w : List Int} {i : Int} (hw : isWord c w = true) : i ∈ leftDescents c w ↔ isPoint c i = true ∧ (imageOf c w).getD i.toNat 0 < 0 := by
  rw [leftDescents_on hw, mem_descs, imageOf_length]
  constructor
  · rintro ⟨h1, h2, h3⟩
    exact ⟨by simp [isPoint, inRange]; omega, h3⟩
  · rintro ⟨h1, h2⟩
    have := point_of h1
    exact ⟨this.1, this.2, h2⟩

theorem exIdx_ge {c : List (List Int)} {w : List Int} {i : Int} : 0 ≤ exIdx c w i ↔ isReduced c w = true ∧ i ∈ leftDescents c w := by
  constructor
  · intro h
    unfold exIdx at h
    split at h
    · rename_i hc
      simpa using hc
    · omega
  · rintro ⟨h1, h2⟩
    obtain ⟨hC, h3, h4, P⟩ := red_of h1
    obtain ⟨hp, g3⟩ := (mem_left (isReduced_word h1)).1 h2
    obtain ⟨k, hk, e⟩ := exchange hC P (by omega) ⟨rfl, h4, rfl⟩ hp g3
    have hke : (w.eraseIdx k).length ≤ w.length := List.length_eraseIdx_le w k
    have he : exAt c w i k = true := by
      unfold exAt
      rw [decide_eq_true_eq, del_nat]
      exact lin_image hC e (letters_erase h4 k) (letters_cons.2 ⟨hp, h4⟩) (by omega) (by simp; omega)
    unfold exIdx
    rw [if_pos (by simp [h1, h2])]
    cases hf : (List.range w.length).find? (exAt c w i) with
    | some k => show (0 : Int) ≤ (k : Int); omega
    | none =>
      have := List.find?_eq_none.1 hf k (by simpa using hk)
      exact absurd he (by simpa using this)

theorem exIdx_same {c : List (List Int)} {w : List Int} {i : Int} (h : 0 ≤ exIdx c w i) (hl : w.length < 15) : areSame c (del w (exIdx c w i)) (i :: del w (-1)) = true := by
  obtain ⟨h1, h2⟩ := exIdx_ge.1 h
  obtain ⟨hC, h3, h4, P⟩ := red_of h1
  obtain ⟨hp, g3⟩ := (mem_left (isReduced_word h1)).1 h2
  have hk : ∃ k : Nat, exIdx c w i = k ∧ exAt c w i k = true := by
    unfold exIdx at h ⊢
    rw [if_pos (by simp [h1, h2])] at h ⊢
    cases hf : (List.range w.length).find? (exAt c w i) with
    | some k => exact ⟨k, rfl, List.find?_some hf⟩
    | none => rw [hf] at h; exact absurd h (by decide)
  obtain ⟨k, e1, e2⟩ := hk
  rw [e1, del_minus]
  have hke : (del w (k : Int)).length ≤ w.length := del_len _ _
  simp only [areSame, Bool.and_eq_true, decide_eq_true_eq]
  refine ⟨⟨word_iff.2 ⟨hC, by omega, lettersOk_del h4 _⟩, word_iff.2 ⟨hC, by simp; omega, letters_cons.2 ⟨hp, h4⟩⟩⟩, by simpa [exAt] using e2⟩

theorem delPair_hit {c : List (List Int)} {x : List Int} (h : (delPair c x).2.2 = true) : isWord c x = true ∧ ∃ i j : Nat, i < j ∧ j < x.length ∧ delPair c x = ((i : Int), (j : Int), true) ∧ hit c x i j = true := by
  cases hw : isWord c x
  · rw [delPair_off hw] at h; cases h
  refine ⟨rfl, ?_⟩
  unfold delPair at h ⊢
  rw [hw] at h ⊢
  simp only [if_true] at h ⊢
  split at h
  · rename_i i hi
    split at h
    · rename_i j hj
      have h1 := List.find?_some hj
      have h2 := List.mem_of_find?_eq_some hj
      simp only [Bool.and_eq_true, decide_eq_true_eq] at h1
      refine ⟨i, j, h1.1, by simpa using h2, ?_, h1.2⟩
      rfl
    · cases h
  · cases h

theorem delPair_iff {c : List (List Int)} {w : List Int} (hw : isWord c w = true) : (delPair c w).2.2 = !(isReduced c w) := by
  obtain ⟨hC, h15, hl⟩ := word_iff.1 hw
  obtain ⟨n, hn, P⟩ := play_image hC hl (by omega)
  have hnf := normF_play hC P (by omega)
  by_cases h : n < w.length
  · have hr : isReduced c w = false := by simp [isReduced, hw, hnf]; omega
    rw [hr]
    obtain ⟨a, b, h1, h2, h3⟩ := deletion hC w n hl (by omega) P h
    have l1 : (w.eraseIdx b).length ≤ w.length := List.length_eraseIdx_le w b
    have l2 : ((w.eraseIdx b).eraseIdx a).length ≤ (w.eraseIdx b).length := List.length_eraseIdx_le _ a
    have hh : hit c w a b = true := by
      unfold hit del2
      rw [decide_eq_true_eq, del_nat, del_nat]
      exact lin_image hC h3 (letters_erase (letters_erase hl b) a) hl (by omega) (by omega)
    cases hr : (delPair c w).2.2 with
    | true => rfl
    | false =>
      exfalso
      have hj : (firstJ c w a).isSome = true := by
        cases hf : firstJ c w a with
        | some j => rfl
        | none =>
          have := List.find?_eq_none.1 hf b (by simpa using h2)
          simp [h1, hh] at this
      have hi : (firstI c w).isSome = true := by
        cases hf : firstI c w with
        | some j => rfl
        | none =>
          have := List.find?_eq_none.1 hf a (by simp; omega)
          exact absurd hj this
      obtain ⟨i, ei⟩ := Option.isSome_iff_exists.1 hi
      have hj2 := List.find?_some ei
      obtain ⟨j, ej⟩ := Option.isSome_iff_exists.1 hj2
      unfold delPair at hr
      rw [if_pos hw, ei] at hr
      simp only [ej] at hr
      cases hr
  · have hr : isReduced c w = true := by simp [isReduced, hw, hnf]; omega
    rw [hr]
    cases hd : (delPair c w).2.2 with
    | false => rfl
    | true =>
      exfalso
      obtain ⟨_, i, j, h1, h2, _, hh⟩ := delPair_hit hd
      have hh' : imageOf c (del2 w i j) = imageOf c w := by simpa [hit] using hh
      unfold del2 at hh'
      rw [del_nat, del_nat] at hh'
      have e1 : ((w.eraseIdx j).eraseIdx i).length + 2 = w.length := by
        rw [List.length_eraseIdx_of_lt (by rw [List.length_eraseIdx_of_lt h2]; omega), List.length_eraseIdx_of_lt h2]
        omega
      obtain ⟨m, hm, Q⟩ := play_image hC (letters_erase (letters_erase hl j) i) (by omega)
      rw [hh'] at Q
      have := play_unique hC P Q (by omega) (by omega)
      omega

theorem delPair_same {c : List (List Int)} {w : List Int} (h : (delPair c w).2.2 = true) : areSame c (del (del w (delPair c w).2.1) (delPair c w).1) w = true := by
  obtain ⟨hw, i, j, h1, h2, e, hh⟩ := delPair_hit h
  obtain ⟨hC, h15, hl⟩ := word_iff.1 hw
  rw [e]
  have l1 : (del (del w (j : Int)) (i : Int)).length ≤ w.length := Nat.le_trans (del_len _ _) (del_len _ _)
  simp only [areSame, Bool.and_eq_true, decide_eq_true_eq]
  exact ⟨⟨word_iff.2 ⟨hC, by omega, lettersOk_del (lettersOk_del hl _) _⟩, hw⟩, of_decide_eq_true hh⟩

theorem areSame_trans {c : List (List Int)} {a b d : List Int} (h : areSame c a b = true) (k : areSame c b d = true) : areSame c a d = true := by
  simp only [areSame, Bool.and_eq_true, decide_eq_true_eq] at *
  exact ⟨⟨h.1.1, k.1.2⟩, h.2.trans k.2⟩
theorem areSame_symm {c : List (List Int)} {a b : List Int} (h : areSame c a b = true) : areSame c b a = true := by
  simp only [areSame, Bool.and_eq_true, decide_eq_true_eq] at *
  exact ⟨⟨h.1.2, h.1.1⟩, h.2.symm⟩
theorem areSame_self {c : List (List Int)} {a : List Int} (h : isWord c a = true) : areSame c a a = true := by
  simp [areSame, h]

theorem red_good {c : List (List Int)} : ∀ (f : Nat) (x o : List Int), isWord c x = true → x.length ≤ 2 * f + 1 → isReduced c (red c f x o).1 = true ∧ areSame c x (red c f x o).1 = true
  | f, x, o, hw, hl => by
    cases hd : (delPair c x).2.2 with
    | false =>
      rw [red_stop hd]
      have := delPair_iff hw
      rw [hd] at this
      exact ⟨by simpa using this, areSame_self hw⟩
    | true =>
      obtain ⟨_, i, j, h1, h2, e, hh⟩ := delPair_hit hd
      have hs := delPair_same hd
      obtain ⟨f', rfl⟩ : ∃ f', f = f' + 1 := ⟨f - 1, by omega⟩
      rw [red_step e]
      rw [e] at hs
      have hs' : areSame c (del (del x (j : Int)) (i : Int)) x = true := hs
      have hw' : isWord c (del (del x (j : Int)) (i : Int)) = true := by
        simp only [areSame, Bool.and_eq_true] at hs'
        exact hs'.1.1
      have e1 : (del (del x (j : Int)) (i : Int)).length + 2 = x.length := by
        rw [del_nat, del_nat, List.length_eraseIdx_of_lt (by rw [List.length_eraseIdx_of_lt h2]; omega), List.length_eraseIdx_of_lt h2]
        omega
      obtain ⟨g1, g2⟩ := red_good f' (del (del x (j : Int)) (i : Int)) (o ++ [(i : Int), (j : Int)]) hw' (by omega)
      exact ⟨g1, areSame_trans (areSame_symm hs') g2⟩

/-! ### Elements -/

theorem normF_of_image {c : List (List Int)} {a b : List Int} (h : imageOf c a = imageOf c b) : normF c a = normF c b := by
  unfold normF
  rw [h]

theorem normF_twice {c : List (List Int)} {w : List Int} (hC : Cartan c) (hw : lettersOk c w = true) (hl : w.length ≤ 30) : normF c (normF c w) = normF c w := normF_of_image (normF_image hC hw hl)

theorem mul_word {c : List (List Int)} {a b : List Int} (h : mulOk c a b = true) : isWord c a = true ∧ isWord c b = true ∧ Cartan c ∧ lettersOk c (a ++ b) = true ∧ (a ++ b).length ≤ 30 ∧ isWord c (mul c a b) = true := by
  have h' := h
  simp only [mulOk, Bool.and_eq_true, decide_eq_true_eq] at h
  obtain ⟨⟨h1, h2⟩, h3⟩ := h
  obtain ⟨hC, ha, la⟩ := word_iff.1 h1
  obtain ⟨_, hb, lb⟩ := word_iff.1 h2
  have hl : lettersOk c (a ++ b) = true := letters_app.2 ⟨la, lb⟩
  have hs : (a ++ b).length ≤ 30 := by simp; omega
  refine ⟨h1, h2, hC, hl, hs, ?_⟩
  rw [mul_on h']
  exact word_iff.2 ⟨hC, h3, normF_letters hC hl hs⟩

theorem mul_element {c : List (List Int)} {a b : List Int} (h : mulOk c a b = true) : isElement c (mul c a b) = true := by
  obtain ⟨_, _, hC, hl, hs, hw⟩ := mul_word h
  rw [isElement_on hw, decide_eq_true_eq, mul_on h]
  exact normF_twice hC hl hs

/-- A normal form is the word, as a map. -/
theorem normF_lin {c : List (List Int)} {w : List Int} (hC : Cartan c) (hw : lettersOk c w = true) (hl : w.length ≤ 29) : Lin c (normF c w) w :=
  faithful hC (normF_letters hC hw (by omega)) hw (Nat.le_trans (normF_len hC hw (by omega)) hl) hl (normF_image hC hw (by omega))

theorem mul_assoc {c : List (List Int)} {a b d : List Int} (hab : a.length + b.length ≤ 29) (hbd : b.length + d.length ≤ 29) (h1 : mulOk c a b = true) (h2 : mulOk c (mul c a b) d = true) (h3 : mulOk c b d = true) (h4 : mulOk c a (mul c b d) = true) :
    mul c (mul c a b) d = mul c a (mul c b d) := by
  obtain ⟨wa, wb, hC, lab, _, wab⟩ := mul_word h1
  obtain ⟨_, wd, _, l2, s2, _⟩ := mul_word h2
  obtain ⟨_, _, _, lbd, _, wbd⟩ := mul_word h3
  obtain ⟨_, _, _, l4, s4, _⟩ := mul_word h4
  rw [mul_on h2, mul_on h4]
  refine normF_of_image (lin_image hC ?_ l2 l4 (by omega) (by omega))
  have e1 : Lin c (mul c a b) (a ++ b) := by rw [mul_on h1]; exact normF_lin hC lab (by simp; omega)
  have e2 : Lin c (mul c b d) (b ++ d) := by rw [mul_on h3]; exact normF_lin hC lbd (by simp; omega)
  refine (e1.app (Lin.refl c d)).trans ?_
  rw [List.append_assoc]
  exact (Lin.app (Lin.refl c a) e2).symm

theorem rev_app_image {c : List (List Int)} {a b : List Int} (hC : Cartan c) (ha : lettersOk c a = true) (hb : lettersOk c b = true) (hla : a.length ≤ 15) (hlb : b.length ≤ 15) (h : Lin c b a.reverse) : imageOf c (a ++ b) = imageOf c [] :=
  lin_image hC (fun v => by
    rw [actS_app, h v]
    exact (actS_rev hC a ha v).1) (letters_app.2 ⟨ha, hb⟩) rfl (by simp; omega) (by simp)

theorem normF_nil {c : List (List Int)} (hC : Cartan c) : normF c [] = [] := List.eq_nil_of_length_eq_zero (normF_play (n := 0) hC (PlayL.ones c) (by omega))

theorem mul_inv {c : List (List Int)} {a : List Int} (h : isWord c a = true) : isWord c a.reverse = true ∧ mulOk c a (normalForm c a.reverse) = true ∧ mul c a (normalForm c a.reverse) = [] := by
  obtain ⟨hC, h15, hl⟩ := word_iff.1 h
  have hr : isWord c a.reverse = true := by rw [isWord_rev]; exact h
  obtain ⟨_, hrl, hlr⟩ := word_iff.1 hr
  have hn := (normF_word hr).2
  obtain ⟨_, hnl, hln⟩ := word_iff.1 hn
  have hi : imageOf c (a ++ normF c a.reverse) = imageOf c [] := rev_app_image hC hl hln h15 hnl (normF_lin hC hlr (by omega))
  have e : normF c (a ++ normF c a.reverse) = [] := (normF_of_image hi).trans (normF_nil hC)
  rw [normalForm_on hr]
  have hok : mulOk c a (normF c a.reverse) = true := by rw [mulOk_on h hn, e]; rfl
  exact ⟨hr, hok, by rw [mul_on hok, e]⟩

theorem commute_same {c : List (List Int)} {a b : List Int} (h : mulOk c a b = true) (hl : a.length + b.length ≤ 15) : commute c a b = areSame c (mul c a b) (b ++ a) := by
  obtain ⟨wa, wb, hC, lab, hs, wm⟩ := mul_word h
  obtain ⟨la, lb⟩ := letters_app.1 lab
  have wba : isWord c (b ++ a) = true := word_iff.2 ⟨hC, by simp; omega, letters_app.2 ⟨lb, la⟩⟩
  have e : imageOf c (mul c a b) = imageOf c (a ++ b) := by rw [mul_on h]; exact normF_image hC lab hs
  simp [commute, areSame, wa, wb, wm, wba, e]

theorem invol_order {c : List (List Int)} {w : List Int} (h : isInvol c w = true) : orderOf c w = 2 ∨ orderOf c w = 0 := by
  simp only [isInvol, Bool.and_eq_true, decide_eq_true_eq] at h
  obtain ⟨⟨hw, hpos⟩, hi⟩ := h
  obtain ⟨hC, h15, hl⟩ := word_iff.1 hw
  unfold orderOf
  split
  · left
    rw [ordF_succ, List.nil_append, ordG_next (by omega) (by have := (normF_word hw).1; omega), ordF_succ]
    have hr : isWord c w.reverse = true := by rw [isWord_rev]; exact hw
    obtain ⟨_, hrl, hlr⟩ := word_iff.1 hr
    have L1 : Lin c w w.reverse := faithful hC hl hlr (by omega) (by omega) hi
    obtain ⟨_, hnl, hln⟩ := word_iff.1 (normF_word hw).2
    have L2 : Lin c (normF c w) w.reverse := (normF_lin hC hl (by omega)).trans L1
    have hi2 : imageOf c (normF c w ++ w) = imageOf c [] := lin_image hC (fun v => by
      rw [actS_app, L2 _]
      exact (actS_rev hC w hl v).2) (letters_app.2 ⟨hln, hl⟩) rfl (by simp; omega) (by simp)
    rw [normF_of_image hi2, normF_nil hC, ordG_zero rfl]
    rfl
  · right; rfl

/-! ### Lengths -/

theorem length_step {c : List (List Int)} {w : List Int} {i : Int} (hw : isWord c w = true) (hl : w.length < 15) (hi : isPoint c i = true) :
    isWord c (i :: w) = true ∧ (i ∈ leftDescents c w → lengthI c (i :: w) = lengthI c w - 1) ∧ (i ∉ leftDescents c w → lengthI c (i :: w) = lengthI c w + 1) := by
  obtain ⟨hC, h15, hlw⟩ := word_iff.1 hw
  have p1 := point_of hi
  have hw2 : isWord c (i :: w) = true := word_iff.2 ⟨hC, by simp; omega, letters_cons.2 ⟨hi, hlw⟩⟩
  obtain ⟨n, hn, P⟩ := play_image hC hlw (by omega)
  have e1 := normF_play hC P (by omega)
  rw [lengthI_on hw, lengthI_on hw2, mem_left hw, e1]
  refine ⟨hw2, fun h => ?_, fun h => ?_⟩
  · obtain ⟨m, hm, Q⟩ := P.down hC (by omega) (i := i.toNat) (by omega) h.2
    have e2 : (normF c (i :: w)).length = m := normF_play hC (by rw [imageW_cons]; exact Q) (by omega)
    rw [e2]
    omega
  · have hne := P.ne hC (i := i.toNat) (by omega)
    have hpos : 0 < (imageOf c w).getD i.toNat 0 := by
      have : ¬ (imageOf c w).getD i.toNat 0 < 0 := fun k => h ⟨hi, k⟩
      omega
    have U : PlayL c (n + 1) (imageOf c (i :: w)) := by
      rw [imageW_cons]
      refine ⟨by rw [reflW_length]; exact P.1, ?_⟩
      rw [pos_refl hC P (by omega) (by omega)]
      exact P.2.up (matOk hC) (by omega) hpos
    have e2 := normF_play hC U (by omega)
    rw [e2]
    omega

theorem length_rev {c : List (List Int)} {w : List Int} (hw : isWord c w = true) : lengthI c w.reverse = lengthI c w := by
  obtain ⟨hC, h15, hl⟩ := word_iff.1 hw
  have hr : isWord c w.reverse = true := by rw [isWord_rev]; exact hw
  obtain ⟨n, hn, P⟩ := play_image hC hl (by omega)
  obtain ⟨m, hm, Q⟩ := play_image hC (letters_rev hl) (by simp; omega)
  have hm' : m ≤ w.length := by simpa using hm
  rw [lengthI_on hw, lengthI_on hr, normF_play hC P (by omega), normF_play hC Q (by omega), play_rev hC hl (by omega) P Q (by omega) (by omega)]

theorem length_right {c : List (List Int)} {w : List Int} {i : Int} (hw : isWord c w = true) (hl : w.length < 15) (hi : isPoint c i = true) :
    isWord c (w ++ [i]) = true ∧ (i ∈ leftDescents c w.reverse → lengthI c (w ++ [i]) = lengthI c w - 1) ∧ (i ∉ leftDescents c w.reverse → lengthI c (w ++ [i]) = lengthI c w + 1) := by
  have hr : isWord c w.reverse = true := by rw [isWord_rev]; exact hw
  obtain ⟨h1, h2, h3⟩ := length_step hr (by simpa using hl) hi
  have e : (w ++ [i]).reverse = i :: w.reverse := by simp
  have hw2 : isWord c (w ++ [i]) = true := by rw [← isWord_rev, e]; exact h1
  rw [← e, length_rev hw2, length_rev hw] at h2 h3
  exact ⟨hw2, h2, h3⟩

/-- Each letter turns the length's parity. -/
theorem play_parity {c : List (List Int)} (hC : Cartan c) : ∀ (w : List Int) (n : Nat), lettersOk c w = true → w.length ≤ 30 → n ≤ 30 → PlayL c n (imageOf c w) → n % 2 = w.length % 2
  | [], n, _, _, hn, P => by
    have := play_unique hC P (PlayL.ones c) hn (by omega)
    subst this
    rfl
  | i :: w, n, hw, hl, hn, P => by
    obtain ⟨hi, hlw⟩ := letters_cons.1 hw
    have p1 := point_of hi
    simp only [List.length_cons] at hl ⊢
    obtain ⟨m, hm, Q⟩ := play_image hC hlw (by omega)
    have ih := play_parity hC w m hlw (by omega) (by omega) Q
    have hne := Q.ne hC (i := i.toNat) (by omega)
    by_cases hlt : (imageOf c w).getD i.toNat 0 < 0
    · obtain ⟨k, hk, K⟩ := Q.down hC (by omega) (i := i.toNat) (by omega) hlt
      have := play_unique hC P (by rw [imageW_cons]; exact K) hn (by omega)
      omega
    · have U : PlayL c (m + 1) (imageOf c (i :: w)) := by
        rw [imageW_cons]
        refine ⟨by rw [reflW_length]; exact Q.1, ?_⟩
        rw [pos_refl hC Q (by omega) (by omega)]
        exact Q.2.up (matOk hC) (by omega) (by show 0 < (imageOf c w).getD i.toNat 0; omega)
      have := play_unique hC P U hn (by omega)
      omega

theorem sign_parity {a b : List Int} (h : a.length % 2 = b.length % 2) : signOf a = signOf b := by
  have e : ∀ n : Nat, (n : Int).tmod 2 = ((n % 2 : Nat) : Int) := fun n => by
    rw [Int.tmod_eq_emod_of_nonneg (by omega)]
    omega
  unfold signOf
  rw [e, e, h]

theorem form_facts {c : List (List Int)} {w : List Int} (hw : isWord c w = true) : areSame c w (normalForm c w) = true ∧ isReduced c (normalForm c w) = true ∧ signOf w = signOf (normalForm c w) := by
  obtain ⟨hC, h15, hl⟩ := word_iff.1 hw
  rw [normalForm_on hw]
  obtain ⟨hn1, hn⟩ := normF_word hw
  obtain ⟨P, _, R⟩ := normF_red hw
  refine ⟨by simp [areSame, hw, hn, normF_image hC hl (by omega)], ?_, ?_⟩
  · simp only [isReduced, hn, Bool.true_and, decide_eq_true_eq]
    rw [normF_twice hC hl (by omega)]
  · exact sign_parity (play_parity hC w _ hl (by omega) (by omega) P).symm

/-- The first of all reduced words is the normal form. -/
theorem spell_head {c : List (List Int)} (hC : Cartan c) : ∀ (n : Nat) (v : List Int) (f : Nat), PlayL c n v → n ≤ 29 → n ≤ f → ∃ t, spellW c n v = nf c f v :: t
  | 0, v, f, P, _, _ => by
    have hst := P.2.stop
    refine ⟨[], ?_⟩
    have e : nf c f v = [] := List.eq_nil_of_length_eq_zero (nf_len hC 0 v f P (by omega) (by omega))
    rw [e]
    rfl
  | n + 1, v, f, P, hn, hf => by
    obtain ⟨f', rfl⟩ : ∃ f', f = f' + 1 := ⟨f - 1, by omega⟩
    have hfd : fd v < v.length := by
      by_cases h : fd v < v.length
      · exact h
      · have := fd_end h
        have := P.2.stop (fun i hi => this i (by rw [P.1]; exact hi))
        omega
    have hneg := fd_lt hfd
    have hnf : nf c (f' + 1) v = (fd v : Int) :: nf c f' (reflW c (fd v) v) := by
      rw [nf, if_pos hfd]
    obtain ⟨m, hm, Q⟩ := P.down hC (by omega) (i := fd v) (by rw [← P.1]; exact hfd) hneg
    obtain rfl : m = n := by omega
    obtain ⟨t, ht⟩ := spell_head hC m (reflW c (fd v) v) f' Q (by omega) (by omega)
    have hd : ∃ t, descs v v.length = (fd v : Int) :: t := by
      have hmem : (fd v : Int) ∈ descs v v.length := mem_descs.2 ⟨by omega, by omega, by simpa using hneg⟩
      have hs := descs_sorted v v.length
      cases hds : descs v v.length with
      | nil => rw [hds] at hmem; cases hmem
      | cons x t =>
        rw [hds] at hs hmem
        have hx : x ∈ descs v v.length := by rw [hds]; simp
        obtain ⟨x1, x2, x3⟩ := mem_descs.1 hx
        rcases List.mem_cons.1 hmem with e | e
        · exact ⟨t, by rw [e]⟩
        · have := (List.pairwise_cons.1 hs).1 _ e
          have hle : fd v ≤ x.toNat := by
            unfold fd
            refine Nat.le_of_not_lt fun hlt => ?_
            have := List.not_of_lt_findIdx hlt
            have e2 : v.getD x.toNat 0 = v[x.toNat]'(by omega) := by simp [List.getD, show x.toNat < v.length by omega]
            rw [e2] at x3
            exact absurd x3 (of_decide_eq_false this)
          omega
    obtain ⟨t2, ht2⟩ := hd
    rw [spellW, ht2, List.flatMap_cons, hnf]
    simp only [Int.toNat_natCast]
    rw [ht]
    exact ⟨_, rfl⟩

theorem reduced_head {c : List (List Int)} {w : List Int} (h : redOk c w = true) : ∃ t, reducedWords c w = normalForm c w :: t := by
  have hw : isWord c w = true := by
    simp only [redOk, Bool.and_eq_true] at h
    exact h.1
  obtain ⟨hC, _, _⟩ := word_iff.1 hw
  obtain ⟨P, h1, _⟩ := normF_red hw
  rw [reducedWords_on h, normalForm_on hw]
  obtain ⟨t, ht⟩ := spell_head hC _ _ 31 P (by omega) (by omega)
  exact ⟨t, ht⟩

end Go.Proofs.Ytkkniibnlniflaa.Hx
