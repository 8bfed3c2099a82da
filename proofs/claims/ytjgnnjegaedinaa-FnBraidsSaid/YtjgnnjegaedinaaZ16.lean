/-
  Contracts of determinants and finite types, of the reference; of finite types, of the program.
  Contracts of finite types, of the program and of the reference.
  Contracts of orders of elements, of the program and of the reference.
-/
import Derived.Test.YtjgnnjegaedinaaZ15
namespace Go.Proofs.Ytjgnnjegaedinaa.Hx
open Go.RowKit
variable {dm : Bool}

theorem term_odd {n j : Nat} {m : List (List Int)} (h : sg j = -1) : term n m j = 0 - ent m 0 j * detZ n (minTo m j n) := by
  unfold term
  rw [h]
  omega
theorem term_even {n j : Nat} {m : List (List Int)} (h : ¬ sg j = -1) : term n m j = ent m 0 j * detZ n (minTo m j n) := by
  have h1 : sg j = 1 := by have := sg_cases j; omega
  unfold term
  rw [h1]
  omega


theorem spec_l4Without (n : Nat) (hn : n < 4) (h : Heap) (x : H0) (m : List (List Int)) (j : Nat) (hx : Rows h x m) (S : Sq (n + 1) m) (hj : j < n + 1) :
    HCalls dm Try.prog 112 [.s x, I j] h (fun r h' => ∃ y, r = .s y ∧ Ext h h' ∧ OwnM h.length h'.length h' y (minTo m j n)) := by
  have hl := S.len
  refine calls_of_hFun (m := 0) kd_ok mixed Try.func112 rfl (by kernel_rfl) rfl rfl (of_decide_eq_true rfl) ?_; unfold hFun; (conv => whnf)
  refine HLit.empty ?_
  (conv => whnf)
  refine HLoop.intro [6, 5] [10, 11, 12, 13, 16, 7, 8, 17, 18, 19, 20, 23, 24, 25, 26, 27, 28, 29, 30, 31, 32, 33, 34, 35, 7, 21, 22, 8, 36, 37, 38, 39, 5, 14, 15, 6] (by kernel_rfl) (by kernel_rfl) (fun vs h' => ∃ (k : Nat) (z : H0), vs = [I ((k + 1 : Nat) : Int), .s z] ∧ k ≤ n ∧ Ext h h' ∧ OwnM h.length h'.length h' z (minTo m j k)) (fun vs _ => n + 1 - natAt vs 0) ⟨0, _, rfl, by omega, Ext.push _ _, OwnM.none h⟩ ?_
  rintro vs h' ⟨k, z, rfl, hk, E, OM⟩
  have hml := minTo_len m j k
  have hx1 := hx.ext E
  (conv => whnf)
  refine ⟨rfl, hx1.len ?_⟩
  (conv => whnf)
  refine HIf.dec (fun hlt => ?_) (fun hge => ?_)
  · have hrk := S.row (k + 1) (by omega)
    have Ep := Ext.push h' [Row.own []]
    (conv => whnf)
    refine HLit.empty ?_
    (conv => whnf)
    refine HLoop.intro [8, 7] [17, 18, 19, 20, 23, 24, 25, 26, 27, 28, 29, 30, 31, 32, 33, 34, 35, 7, 21, 22, 8] (by kernel_rfl) (by kernel_rfl) (fun vs h2 => ∃ (b : Nat) (y : H0) (r : Nat), vs = [I b, .s y] ∧ b ≤ n + 1 ∧ Ext h' h2 ∧ h'.length ≤ r ∧ OwnR r h2 y (del ((m.getD (k + 1) []).take b) (j : Nat))) (fun vs _ => n + 1 - natAt vs 0) ⟨0, _, h'.length, rfl, by omega, Ep, Nat.le_refl _, by rw [List.take_zero, del_none]; exact OwnR.push h' []⟩ ?_
    rintro vs h2 ⟨b, y, r, rfl, hb, E2, hr, O⟩
    have hx2 := hx1.ext E2
    have hE2 := E2.1
    have hdl := del_len ((m.getD (k + 1) []).take b) (j : Nat)
    rw [List.length_take] at hdl
    have htl : ((m.getD (k + 1) []).take b).length = b := by rw [List.length_take]; omega
    (conv => whnf)
    refine ⟨rfl, hx2.len ?_⟩
    (conv => whnf)
    refine HIf.dec (fun hltb => ?_) (fun hgeb => ?_)
    · have ht := del_takeM m (k + 1) b (by omega)
      (conv => whnf)
      refine HIf.bne (fun hne => ?_) (fun heq => ?_)
      · have hd := del_ne ((m.getD (k + 1) []).take b) (ent m (k + 1) b) (j : Nat) (by rw [htl]; exact hne)
        rw [← ht] at hd
        (conv => whnf)
        refine ⟨rfl, Rows.idxN hx2 (by omega) (fun p3 y3 hp3 hy3 => ?_)⟩
        (conv => whnf)
        refine ⟨rfl, hp3.load ?_⟩
        (conv => whnf)
        refine ⟨rfl, Ints.idxN hy3 (by omega) (fun p4 hp4 => ?_)⟩
        (conv => whnf)
        refine ⟨rfl, hp4.load ?_⟩
        rw [ent_eq]
        (conv => whnf)
        refine HLit.one ?_
        (conv => whnf)
        refine ⟨rfl, rfl, HApp.snocR O (by omega) (fun h3 r3 y5 B3 hr3 O3 => ?_)⟩
        rw [← hd] at O3
        (conv => whnf)
        refine HArith.fits (by omega) (by omega) ?_
        (conv => whnf)
        exact ⟨⟨b + 1, y5, r3, rfl, by omega, E2.but B3 hr, by omega, O3⟩, by show n + 1 - (b + 1) < n + 1 - b; omega⟩
      · have hd := del_eq ((m.getD (k + 1) []).take b) (ent m (k + 1) b)
        rw [← ht, htl, heq] at hd
        rw [← hd] at O
        (conv => whnf)
        refine HArith.fits (by omega) (by omega) ?_
        (conv => whnf)
        exact ⟨⟨b + 1, y, r, rfl, by omega, E2, hr, O⟩, by show n + 1 - (b + 1) < n + 1 - b; omega⟩
    · have e : b = (m.getD (k + 1) []).length := by omega
      rw [e, List.take_length] at O
      have F := O.own hr
      (conv => whnf)
      refine HLit.row F.one ?_
      (conv => whnf)
      refine ⟨rfl, rfl, HApp.snocM E OM E2 F (by omega) (fun h5 y5 E5 O5 => ?_)⟩
      rw [← minTo_succ] at O5
      (conv => whnf)
      refine HArith.to (e' := ((k + 1 + 1 : Nat) : Int)) (by omega) (by omega) (by omega) ?_
      (conv => whnf)
      exact ⟨⟨k + 1, y5, rfl, by omega, E5, O5⟩, by show n + 1 - (k + 1 + 1) < n + 1 - (k + 1); omega⟩
  · have e : k = n := by omega
    subst e
    (conv => whnf)
    exact ⟨_, rfl, E, OM⟩

theorem spec_l4Det : ∀ (n : Nat), n ≤ 4 → ∀ (h : Heap) (x : H0) (m : List (List Int)), Rows h x m → Sq n m → HCalls dm Try.prog 106 [.s x] h (fun r h' => r = I (detZ n m) ∧ Ext h h') := by
  intro n
  induction n with
  | zero =>
    intro _ h x m hx S
    have hl := S.len
    refine calls_of_hFun (m := 0) kd_ok mixed Try.func106 rfl (by kernel_rfl) rfl rfl (of_decide_eq_true rfl) ?_; unfold hFun; (conv => whnf)
    refine ⟨rfl, hx.len ?_⟩
    (conv => whnf)
    refine HIf.beqT (by omega) ?_
    (conv => whnf)
    exact ⟨rfl, Ext.refl _⟩
  | succ n ih =>
    intro hn h x m hx S
    have hl := S.len
    have hr0 := S.row 0 (by omega)
    rw [detZ_succ]
    refine calls_of_hFun (m := 0) kd_ok mixed Try.func106 rfl (by kernel_rfl) rfl rfl (of_decide_eq_true rfl) ?_; unfold hFun; (conv => whnf)
    refine ⟨rfl, hx.len ?_⟩
    (conv => whnf)
    refine HIf.beqF (by omega) ?_
    (conv => whnf)
    refine HLoop.intro [4, 3] [9, 10, 11, 12, 15, 16, 17, 18, 19, 20, 21, 22, 23, 24, 25, 5, 26, 27, 28, 29, 30, 5, 31, 32, 33, 3, 13, 14, 4] (by kernel_rfl) (by kernel_rfl) (fun vs h' => ∃ j : Nat, vs = [I j, I (sumTo (term n m) j)] ∧ j ≤ n + 1 ∧ Ext h h') (fun vs _ => n + 1 - natAt vs 0) ⟨0, rfl, by omega, Ext.refl _⟩ ?_
    rintro vs h' ⟨j, rfl, hj, E⟩
    have hsum := sum_small (by omega) S hj
    have hx1 := hx.ext E
    (conv => whnf)
    refine ⟨rfl, hx1.len ?_⟩
    (conv => whnf)
    refine HIf.dec (fun hlt => ?_) (fun hge => ?_)
    · have hts := term_small (by omega) S (j := j) (by omega)
      have hsum2 := sum_small (by omega) S (k := j + 1) (by omega)
      have hss := sumTo_succ (term n m) j
      (conv => whnf)
      refine Or.inr (Or.inr (Or.inl (Exists.intro 12 (Exists.intro [0, 1, 2, 3, 4, 5, 6, 7] (Exists.intro [8, 9, 10, 11] (And.intro (show heldOk _ _ _ _ = true by kernel_rfl) ?_)))))); (conv => whnf)
      refine ⟨rfl, Rows.idxN (n := 0) hx1 (by omega) (fun p y hp hy => ?_)⟩
      (conv => whnf)
      refine ⟨rfl, hp.load ?_⟩
      (conv => whnf)
      refine ⟨rfl, Ints.idxN hy (by omega) (fun p2 hp2 => ?_)⟩
      (conv => whnf)
      refine ⟨rfl, hp2.load ?_⟩
      rw [ent_eq]
      (conv => whnf)
      refine HCallF.mat (spec_l4Without n (by omega) _ _ m j hx1.frz S (by omega)) (fun h2 y2 E2 O2 => ?_)
      (conv => whnf)
      refine HCallF.val (ih (by omega) _ _ _ O2.rows.frz (min_sq S (by omega))) (fun h3 E3 => ?_)
      have Eb := (E.trans E2).trans E3
      (conv => whnf)
      refine HArith.fits (by omega) (by omega) ?_
      (conv => whnf)
      refine HRem.of (by decide) ?_
      (conv => whnf)
      rw [sgInt]
      refine HIf.dec (fun hodd => ?_) (fun heven => ?_)
      · have et := term_odd (n := n) (m := m) hodd
        (conv => whnf)
        refine HArith.to (e' := term n m j) et.symm (by omega) (by omega) ?_
        (conv => whnf)
        refine HArith.to (e' := sumTo (term n m) (j + 1)) hss.symm (by omega) (by omega) ?_
        (conv => whnf)
        refine HArith.fits (by omega) (by omega) ?_
        (conv => whnf)
        exact ⟨⟨j + 1, rfl, by omega, Eb⟩, by show n + 1 - (j + 1) < n + 1 - j; omega⟩
      · have et := term_even (n := n) (m := m) heven
        rw [← et]
        (conv => whnf)
        refine HArith.to (e' := sumTo (term n m) (j + 1)) hss.symm (by omega) (by omega) ?_
        (conv => whnf)
        refine HArith.fits (by omega) (by omega) ?_
        (conv => whnf)
        exact ⟨⟨j + 1, rfl, by omega, Eb⟩, by show n + 1 - (j + 1) < n + 1 - j; omega⟩
    · have e : j = n + 1 := by omega
      subst e
      (conv => whnf)
      exact ⟨rfl, E⟩

end Go.Proofs.Ytjgnnjegaedinaa.Hx

namespace Go.Proofs.Ytjgnnjegaedinaa.Hx
open Go.RowKit
variable {dm : Bool}

def minorsTo (c : List (List Int)) (k : Nat) : List Int := (List.range k).map fun t => dt c (t + 1)
theorem minorsTo_none (c : List (List Int)) : minorsTo c 0 = [] := rfl
theorem minorsTo_len (c : List (List Int)) (k : Nat) : (minorsTo c k).length = k := by simp [minorsTo]
theorem minorsTo_succ (c : List (List Int)) (k : Nat) : minorsTo c (k + 1) = minorsTo c k ++ [dt c (k + 1)] := by
  unfold minorsTo
  rw [List.range_succ, List.map_append]
  rfl
theorem minorsTo_get {c : List (List Int)} {k n : Nat} (h : k < n) : (minorsTo c n).getD k 0 = dt c (k + 1) := by simp [minorsTo, List.getD, h]
def setsTo (k : Nat) : List (List Int) := (List.range k).map fun t => setB (t + 1)
theorem setsTo_none : setsTo 0 = [] := rfl
theorem setsTo_len (k : Nat) : (setsTo k).length = k := by simp [setsTo]
theorem setsTo_succ (k : Nat) : setsTo (k + 1) = setsTo k ++ [setB (k + 1)] := by
  unfold setsTo
  rw [List.range_succ, List.map_append]
  rfl
theorem setsTo_get {k n : Nat} (h : k < n) : (setsTo n).getD k [] = setB (k + 1) := by simp [setsTo, List.getD, h]
theorem isFinite_off {c : List (List Int)} (h : isCartan c = false) : isFinite c = false := by simp [isFinite, h]
theorem isFinite_on {c : List (List Int)} (h : isCartan c = true) {l : List Int} (hl : l.length = 0 ↔ allPos c = true) : ((l.length : Int) == 0) = isFinite c := by
  have e : isFinite c = allPos c := by simp [isFinite, h]
  rw [e]
  by_cases h0 : l.length = 0
  · rw [hl.1 h0]
    exact beq_iff_eq.2 (by omega)
  · have : allPos c = false := by
      rw [Bool.eq_false_iff]
      exact fun e => h0 (hl.2 e)
    rw [this]
    exact beq_eq_false_iff_ne.2 (by omega)
theorem set_len4 (m : Nat) : (setB m).length ≤ 4 := setTo_len m 4


theorem impl_PrincipalMinors (h : Heap) (x : H0) (c : List (List Int)) (hx : Rows h x c) (hic : isCartan c = true) :
    HCalls dm Try.prog 102 [.s x] h (fun r h' => ∃ y, r = .s y ∧ Fresh h h' y (minorsTo c (2 ^ c.length - 1))) := by
  have hC := (isCartan_iff c).1 hic
  have h4 := hC.le
  have h16 := pow_le16 (n := c.length) (by omega)
  have E0 := Ext.push h [Row.own []]
  refine calls_of_hFun (m := 0) kd_ok mixed Try.func102 rfl (by kernel_rfl) rfl rfl (of_decide_eq_true rfl) ?_; unfold hFun; (conv => whnf)
  refine HLit.empty ?_
  (conv => whnf)
  refine (impl_IsCartan _ _ _ (hx.ext E0) (by omega)).mono ?_
  rintro r h1 ⟨rfl, hh⟩
  subst h1
  rw [hic]
  (conv => whnf)
  refine HIf.no ?_
  (conv => whnf)
  refine HLoop.intro [4, 3] [10, 11, 12, 13, 14, 17, 18, 19, 20, 21, 22, 23, 24, 3, 15, 16, 4] (by kernel_rfl) (by kernel_rfl) (fun vs h' => ∃ (k : Nat) (z : H0) (r : Nat), vs = [I ((k + 1 : Nat) : Int), .s z] ∧ k + 1 ≤ 2 ^ c.length ∧ Ext h h' ∧ h.length ≤ r ∧ OwnR r h' z (minorsTo c k)) (fun vs _ => 16 - natAt vs 0) ⟨0, _, h.length, rfl, Nat.one_le_two_pow, E0, Nat.le_refl _, OwnR.push h []⟩ ?_
  rintro vs h' ⟨k, z, r, rfl, hk, E, hr, O⟩
  have hml := minorsTo_len c k
  have hx1 := hx.ext E
  have hE := E.1
  (conv => whnf)
  refine ⟨rfl, hx1.len ?_⟩
  (conv => whnf)
  refine HShl.one (by omega) ?_
  (conv => whnf)
  refine HIf.dec (fun hlt => ?_) (fun hge => ?_)
  · obtain ⟨f1, f2, f3⟩ := setB_fits c.length (by omega) (k + 1) (by omega) (by omega)
    have hs4 := set_len4 (k + 1)
    (conv => whnf)
    refine (impl_setOf _ (k + 1) (by omega)).mono ?_
    rintro v h2 ⟨y2, rfl, g2⟩
    (conv => whnf)
    refine (impl_picked _ _ c _ _ (hx1.ext g2.1) g2.ints hC f2 hs4).mono ?_
    rintro v h3 ⟨y3, rfl, E3, O3⟩
    (conv => whnf)
    refine (impl_determinant _ hs4 _ _ _ O3.rows (pick_sq hC f2)).mono ?_
    rintro v h5 ⟨rfl, E5⟩
    have Eb := (g2.1.trans E3).trans E5
    have hEb := Eb.1
    have es : minorsTo c (k + 1) = minorsTo c k ++ [detZ (setB (k + 1)).length (pick c (setB (k + 1)))] := minorsTo_succ c k
    (conv => whnf)
    refine HLit.one ?_
    (conv => whnf)
    refine ⟨rfl, rfl, HApp.snocR (O.ext Eb) (by omega) (fun h6 r6 y6 B6 hr6 O6 => ?_)⟩
    rw [← es] at O6
    (conv => whnf)
    refine HArith.to (e' := ((k + 1 + 1 : Nat) : Int)) (by omega) (by omega) (by omega) ?_
    (conv => whnf)
    exact ⟨⟨k + 1, y6, r6, rfl, by omega, (E.trans Eb).but B6 hr, by omega, O6⟩, by show 16 - (k + 1 + 1) < 16 - (k + 1); omega⟩
  · have e : 2 ^ c.length - 1 = k := by omega
    rw [e]
    (conv => whnf)
    exact ⟨_, rfl, Fresh.ofRow E O hr⟩

theorem impl_WitnessOf (h : Heap) (x : H0) (c : List (List Int)) (hx : Rows h x c) (hic : isCartan c = true) :
    HCalls dm Try.prog 96 [.s x] h (fun r h' => ∃ (y : H0) (l : List Int), r = .s y ∧ Ext h h' ∧ Ints h' y l ∧ (l.length = 0 ↔ allPos c = true)) := by
  have hC := (isCartan_iff c).1 hic
  have h4 := hC.le
  have h16 := pow_le16 (n := c.length) (by omega)
  refine calls_of_hFun (m := 0) kd_ok mixed Try.func96 rfl (by kernel_rfl) rfl rfl (of_decide_eq_true rfl) ?_; unfold hFun; (conv => whnf)
  refine (impl_PrincipalMinors _ _ c hx hic).mono ?_
  rintro r h1 ⟨y1, rfl, f1⟩
  have hy := f1.ints
  have hml := minorsTo_len c (2 ^ c.length - 1)
  (conv => whnf)
  refine ⟨rfl, hy.len ?_⟩
  rw [hml]
  (conv => whnf)
  refine HLoop.intro [8] [9, 10, 11, 12, 3, 4, 13, 14, 15, 16, 17, 2, 18, 8] (by kernel_rfl) (by kernel_rfl) (fun vs h' => ∃ k : Nat, vs = [I k] ∧ k ≤ 2 ^ c.length - 1 ∧ h' = h1 ∧ ∀ t, t < k → 0 < dt c (t + 1)) (fun vs _ => 16 - natAt vs 0) ⟨0, rfl, by omega, rfl, fun t ht => by omega⟩ ?_
  rintro vs h' ⟨k, rfl, hk, hh, hb⟩
  subst h'
  (conv => whnf)
  refine HIf.dec (fun hlt => ?_) (fun hge => ?_)
  · have hg := minorsTo_get (c := c) (k := k) (n := 2 ^ c.length - 1) (by omega)
    (conv => whnf)
    refine ⟨rfl, Ints.idxN hy (by omega) (fun p hp => ?_)⟩
    rw [hg] at hp
    (conv => whnf)
    refine ⟨rfl, hp.load ?_⟩
    (conv => whnf)
    refine HIf.dec (fun hle => ?_) (fun hpos => ?_)
    · (conv => whnf)
      refine HArith.to (e' := ((k + 1 : Nat) : Int)) (by omega) (by omega) (by omega) ?_
      (conv => whnf)
      refine (impl_setOf _ (k + 1) (by omega)).mono ?_
      rintro v h2 ⟨y2, rfl, g2⟩
      have f1' := (setB_fits c.length (by omega) (k + 1) (by omega) (by omega)).1
      have hap := allPos_not (c := c) (k := k) (by omega) hle
      (conv => whnf)
      exact ⟨_, _, rfl, f1.1.trans g2.1, g2.ints, ⟨fun h => absurd h f1', fun h => by rw [hap] at h; cases h⟩⟩
    · (conv => whnf)
      refine HArith.fits (by omega) (by omega) ?_
      (conv => whnf)
      refine ⟨⟨k + 1, rfl, by omega, rfl, fun t ht => ?_⟩, by show 16 - (k + 1) < 16 - k; omega⟩
      by_cases e : t = k
      · subst e; omega
      · exact hb t (by omega)
  · have hap := allPos_of (c := c) (fun t ht => hb t (by omega))
    (conv => whnf)
    refine HLit.empty ?_
    (conv => whnf)
    exact ⟨_, [], rfl, f1.1.trans (Ext.push _ _), (OwnR.push _ []).ints, ⟨fun _ => hap, fun _ => rfl⟩⟩

theorem impl_IsFinite (h : Heap) (x : H0) (c : List (List Int)) (hx : Rows h x c) (hcl : c.length ≤ 1048576) :
    HCalls dm Try.prog 74 [.s x] h (fun r h' => r = B (isFinite c) ∧ Ext h h') := by
  refine calls_of_hFun (m := 0) kd_ok mixed Try.func74 rfl (by kernel_rfl) rfl rfl (of_decide_eq_true rfl) ?_; unfold hFun; (conv => whnf)
  refine (impl_IsCartan _ _ _ hx (by omega)).mono ?_
  rintro r h1 ⟨rfl, hh⟩
  subst h1
  (conv => whnf)
  cases hic : isCartan c
  · (repeat (first | (refine HIf.no ?_; conv => whnf)))
    exact ⟨bEq (isFinite_off hic), Ext.refl _⟩
  refine HIf.yes ?_
  (conv => whnf)
  refine HIf.yes ?_
  (conv => whnf)
  refine (impl_WitnessOf _ _ c hx hic).mono ?_
  rintro r h1 ⟨y, l, rfl, E, hl, hiff⟩
  have hfin := isFinite_on hic hiff
  (conv => whnf)
  (repeat (first | (refine HIf.yes ?_; conv => whnf) | (refine ⟨rfl, hl.len ?_⟩; conv => whnf)))
  exact ⟨bEq hfin.symm, E⟩

theorem spec_l4Sets (h : Heap) (n : Nat) (hn : n < 5) :
    HCalls dm Try.prog 104 [I n] h (fun r h' => ∃ y, r = .s y ∧ Ext h h' ∧ OwnM h.length h'.length h' y (setsTo (2 ^ n - 1))) := by
  have h16 := pow_le16 hn
  refine calls_of_hFun (m := 0) kd_ok mixed Try.func104 rfl (by kernel_rfl) rfl rfl (of_decide_eq_true rfl) ?_; unfold hFun; (conv => whnf)
  refine HLit.empty ?_
  (conv => whnf)
  refine HLoop.intro [4, 3] [8, 9, 10, 11, 14, 5, 6, 15, 16, 17, 20, 21, 22, 23, 24, 25, 26, 27, 28, 5, 18, 19, 6, 29, 30, 31, 32, 3, 12, 13, 4] (by kernel_rfl) (by kernel_rfl) (fun vs h' => ∃ (k : Nat) (z : H0), vs = [I ((k + 1 : Nat) : Int), .s z] ∧ k + 1 ≤ 2 ^ n ∧ Ext h h' ∧ OwnM h.length h'.length h' z (setsTo k)) (fun vs _ => 16 - natAt vs 0) ⟨0, _, rfl, Nat.one_le_two_pow, Ext.push _ _, OwnM.none h⟩ ?_
  rintro vs h' ⟨k, z, rfl, hk, E, OM⟩
  have hsl := setsTo_len k
  (conv => whnf)
  refine HShl.one hn ?_
  (conv => whnf)
  refine HIf.dec (fun hlt => ?_) (fun hge => ?_)
  · have Ep := Ext.push h' [Row.own []]
    (conv => whnf)
    refine HLit.empty ?_
    (conv => whnf)
    refine HLoop.intro [6, 5] [15, 16, 17, 20, 21, 22, 23, 24, 25, 26, 27, 28, 5, 18, 19, 6] (by kernel_rfl) (by kernel_rfl) (fun vs h2 => ∃ (b : Nat) (y : H0) (r : Nat), vs = [I b, .s y] ∧ b ≤ n ∧ Ext h' h2 ∧ h'.length ≤ r ∧ OwnR r h2 y (setTo (k + 1) b)) (fun vs _ => n - natAt vs 0) ⟨0, _, h'.length, rfl, by omega, Ep, Nat.le_refl _, OwnR.push h' []⟩ ?_
    rintro vs h2 ⟨b, y, r, rfl, hb, E2, hr, O⟩
    have htl := setTo_len (k + 1) b
    have hE2 := E2.1
    have hdl : (k + 1) / 2 ^ b ≤ k + 1 := Nat.div_le_self _ _
    (conv => whnf)
    refine HIf.dec (fun hltb => ?_) (fun hgeb => ?_)
    · (conv => whnf)
      refine HShr.bits (by omega) (by omega) ?_
      (conv => whnf)
      refine HAnd.one (by omega) ?_
      (conv => whnf)
      rw [bit_one]
      cases hbt : bit (k + 1) b
      · rw [← setTo_out hbt] at O
        refine HIf.no ?_
        (conv => whnf)
        refine HArith.fits (by omega) (by omega) ?_
        (conv => whnf)
        exact ⟨⟨b + 1, y, r, rfl, by omega, E2, hr, O⟩, by show n - (b + 1) < n - b; omega⟩
      · refine HIf.yes ?_
        (conv => whnf)
        refine HLit.one ?_
        (conv => whnf)
        refine ⟨rfl, rfl, HApp.snocR O (by omega) (fun h3 r3 y3 B3 hr3 O3 => ?_)⟩
        rw [← setTo_in hbt] at O3
        (conv => whnf)
        refine HArith.fits (by omega) (by omega) ?_
        (conv => whnf)
        exact ⟨⟨b + 1, y3, r3, rfl, by omega, E2.but B3 hr, by omega, O3⟩, by show n - (b + 1) < n - b; omega⟩
    · have e : b = n := by omega
      rw [e, setTo_all n hn (k + 1) (by omega)] at O
      have F := O.own hr
      (conv => whnf)
      refine HLit.row F.one ?_
      (conv => whnf)
      refine ⟨rfl, rfl, HApp.snocM E OM E2 F (by omega) (fun h5 y5 E5 O5 => ?_)⟩
      rw [← setsTo_succ] at O5
      (conv => whnf)
      refine HArith.to (e' := ((k + 1 + 1 : Nat) : Int)) (by omega) (by omega) (by omega) ?_
      (conv => whnf)
      exact ⟨⟨k + 1, y5, rfl, by omega, E5, O5⟩, by show 16 - (k + 1 + 1) < 16 - (k + 1); omega⟩
  · have e : 2 ^ n - 1 = k := by omega
    rw [e]
    (conv => whnf)
    exact ⟨_, rfl, E, OM⟩

theorem spec_l3Set (h : Heap) (x0 : H0) (c : List (List Int)) (x1 : H0) (o : List Int) (hx0 : Rows h x0 c) (hx1 : Ints h x1 o) (hic : isCartan c = true) (ho : ∀ k, k < o.length → 0 ≤ o.getD k 0 ∧ o.getD k 0 < c.length) (hs : ∀ k, k < o.length → k = 0 ∨ o.getD (k - 1) 0 < o.getD k 0) (hol : o.length ≤ 4) :
    HCalls dm Try.prog 111 [.s x0, .s x1] h (fun r h' => r = B true ∧ h' = h) := by
  have hC := (isCartan_iff c).1 hic
  have h4 := hC.le
  refine calls_of_hFun (m := 0) kd_ok mixed Try.func111 rfl (by kernel_rfl) rfl rfl (of_decide_eq_true rfl) ?_; unfold hFun; (conv => whnf)
  refine HLoop.intro [5] [6, 7, 8, 9, 12, 13, 14, 15, 16, 17, 18, 19, 20, 21, 22, 23, 24, 25, 26, 27, 28, 29, 30, 31, 32, 33, 34, 35, 36, 4, 10, 11, 5] (by kernel_rfl) (by kernel_rfl) (fun vs h' => ∃ k : Nat, vs = [I k] ∧ k ≤ o.length ∧ h' = h) (fun vs _ => o.length - natAt vs 0) ⟨0, rfl, by omega, rfl⟩ ?_
  rintro vs h' ⟨k, rfl, hk, hh⟩
  subst h'
  (conv => whnf)
  refine ⟨rfl, hx1.len ?_⟩
  (conv => whnf)
  refine HIf.dec (fun hlt => ?_) (fun hge => ?_)
  · have hok := ho k (by omega)
    have hsk := hs k (by omega)
    have hpt : isPoint c (o.getD k 0) = true := by simp only [isPoint, inRange, Bool.and_eq_true, decide_eq_true_eq]; omega
    have idx1 : ∀ {K : HV → Prop}, (∀ p, At h p (ci (o.getD k 0)) → K (.s p)) → HIdx h (.s x1) (I k) K := fun hK => Ints.idxN hx1 (by omega) hK
    (conv => whnf)
    refine Or.inl (And.intro (show Region.lexB _ _ = true by kernel_rfl) ?_); (conv => whnf)
    refine ⟨rfl, idx1 (fun p hp => ?_)⟩
    (conv => whnf)
    refine ⟨rfl, hp.load ?_⟩
    (conv => whnf)
    refine ⟨rfl, hx0.len ?_⟩
    (conv => whnf)
    refine HArith.fits (by omega) (by omega) ?_
    (conv => whnf)
    refine HCallQ.of (.bool (decide (0 ≤ o.getD k 0) && decide (o.getD k 0 ≤ (c.length : Int) - 1))) (spec_l1In _ (o.getD k 0) 0 ((c.length : Int) - 1)) (fun x h' hR => hR.1) ?_
    rw [isPoint_l1, hpt]
    (conv => whnf)
    by_cases hk0 : (k : Int) > 0
    · have idx2 : ∀ {K : HV → Prop}, (∀ p, At h p (ci (o.getD (k - 1) 0)) → K (.s p)) → HIdx h (.s x1) (I ((k - 1 : Nat) : Int)) K := fun hK => Ints.idxN hx1 (by omega) hK
      have hng : ¬ (o.getD (k - 1) 0 ≥ o.getD k 0) := by omega
      (repeat (first | (refine HIf.yes ?_; conv => whnf) | (refine HIf.no ?_; conv => whnf) | (refine HIf.decT hk0 ?_; conv => whnf) | (refine HArith.to (e' := ((k - 1 : Nat) : Int)) (by omega) (by omega) (by omega) ?_; conv => whnf) | (refine ⟨rfl, idx2 (fun p hp => ?_)⟩; conv => whnf) | (refine ⟨rfl, idx1 (fun p hp => ?_)⟩; conv => whnf) | (refine ⟨rfl, At.load (by assumption) ?_⟩; conv => whnf)))
      refine HIf.decF hng ?_
      (conv => whnf)
      refine HArith.fits (by omega) (by omega) ?_
      (conv => whnf)
      exact ⟨⟨k + 1, rfl, by omega, rfl⟩, by show o.length - (k + 1) < o.length - k; omega⟩
    · (repeat (first | (refine HIf.yes ?_; conv => whnf) | (refine HIf.no ?_; conv => whnf) | (refine HIf.decF hk0 ?_; conv => whnf)))
      refine HArith.fits (by omega) (by omega) ?_
      (conv => whnf)
      exact ⟨⟨k + 1, rfl, by omega, rfl⟩, by show o.length - (k + 1) < o.length - k; omega⟩
  · (conv => whnf)
    refine (spec_IsCartan _ _ _ hx0 (by omega)).mono ?_
    rintro r h1 ⟨rfl, hh⟩
    subst h1
    rw [hic]
    (conv => whnf)
    exact ⟨rfl, rfl⟩

theorem spec_SubCartan (h : Heap) (x0 : H0) (c : List (List Int)) (x1 : H0) (o : List Int) (hx0 : Rows h x0 c) (hx1 : Ints h x1 o) (hic : isCartan c = true) (ho : ∀ k, k < o.length → 0 ≤ o.getD k 0 ∧ o.getD k 0 < c.length) (hs : ∀ k, k < o.length → k = 0 ∨ o.getD (k - 1) 0 < o.getD k 0) (hol : o.length ≤ 4) (hne : o.length ≠ 0) :
    HCalls dm Try.prog 105 [.s x0, .s x1] h (fun r h' => ∃ y, r = T2 y true ∧ Ext h h' ∧ OwnM h.length h'.length h' y (pick c o)) := by
  have hC := (isCartan_iff c).1 hic
  have h4 := hC.le
  have E0 := Ext.push h [Row.own []]
  have hx10 := hx1.ext E0
  refine calls_of_hFun (m := 0) kd_ok mixed Try.func105 rfl (by kernel_rfl) rfl rfl (of_decide_eq_true rfl) ?_; unfold hFun; (conv => whnf)
  refine HLit.empty ?_
  (conv => whnf)
  refine (spec_l3Set _ _ c _ o (hx0.ext E0) hx10 hic ho hs hol).mono ?_
  rintro r h1 ⟨rfl, hh⟩
  subst h1
  have hz : ¬ ((o.length : Int) = 0) := by omega
  (conv => whnf)
  (repeat (first | (refine HIf.yes ?_; conv => whnf) | (refine HIf.no ?_; conv => whnf) | (refine ⟨rfl, hx10.len ?_⟩; conv => whnf)))
  refine HIf.beqF hz ?_
  (conv => whnf)
  refine HLoop.intro [7, 6] [21, 22, 23, 24, 27, 8, 9, 28, 29, 30, 31, 34, 35, 36, 37, 38, 39, 40, 41, 42, 43, 44, 45, 46, 47, 48, 49, 8, 32, 33, 9, 50, 51, 52, 53, 6, 25, 26, 7] (by kernel_rfl) (by kernel_rfl) (fun vs h' => ∃ (a : Nat) (z : H0), vs = [I a, .s z] ∧ a ≤ o.length ∧ Ext h h' ∧ OwnM h.length h'.length h' z (pickTo c o a)) (fun vs _ => o.length - natAt vs 0) ⟨0, _, rfl, by omega, Ext.push _ _, OwnM.none h⟩ ?_
  rintro vs h' ⟨a, z, rfl, ha, E, OM⟩
  have hpl := pickTo_len c o a
  have hx1 := hx1.ext E
  (conv => whnf)
  refine ⟨rfl, hx1.len ?_⟩
  (conv => whnf)
  refine HIf.dec (fun hlt => ?_) (fun hge => ?_)
  · have hoa := ho a (by omega)
    obtain ⟨i, hi⟩ : ∃ i : Nat, o.getD a 0 = (i : Int) := ⟨(o.getD a 0).toNat, by omega⟩
    rw [hi] at hoa
    have hir := hC.row i (by omega)
    have Ep := Ext.push h' [Row.own []]
    (conv => whnf)
    refine HLit.empty ?_
    (conv => whnf)
    refine HLoop.intro [9, 8] [28, 29, 30, 31, 34, 35, 36, 37, 38, 39, 40, 41, 42, 43, 44, 45, 46, 47, 48, 49, 8, 32, 33, 9] (by kernel_rfl) (by kernel_rfl) (fun vs h2 => ∃ (b : Nat) (y : H0) (r : Nat), vs = [I b, .s y] ∧ b ≤ o.length ∧ Ext h' h2 ∧ h'.length ≤ r ∧ OwnR r h2 y (pickRow c o i b)) (fun vs _ => o.length - natAt vs 0) ⟨0, _, h'.length, rfl, by omega, Ep, Nat.le_refl _, OwnR.push h' []⟩ ?_
    rintro vs h2 ⟨b, y, r, rfl, hb, E2, hr, O⟩
    have hrl := pickRow_len c o i b
    have hE2 := E2.1
    have hx12 := hx1.ext E2
    (conv => whnf)
    refine ⟨rfl, hx12.len ?_⟩
    (conv => whnf)
    refine HIf.dec (fun hltb => ?_) (fun hgeb => ?_)
    · have hob := ho b (by omega)
      obtain ⟨j, hj⟩ : ∃ j : Nat, o.getD b 0 = (j : Int) := ⟨(o.getD b 0).toNat, by omega⟩
      rw [hj] at hob
      have hx02 := (hx0.ext E).ext E2
      (conv => whnf)
      refine Or.inr (Or.inr (Or.inl (Exists.intro 15 (Exists.intro [0, 1, 2, 3, 4, 5, 6, 7, 8, 9, 10, 11, 12, 13] (Exists.intro [14, 15, 16] (And.intro (show heldOk _ _ _ _ = true by kernel_rfl) ?_)))))); (conv => whnf)
      refine ⟨rfl, Ints.idxN hx12 (by omega) (fun p hp => ?_)⟩
      rw [hi] at hp
      (conv => whnf)
      refine ⟨rfl, hp.load ?_⟩
      (conv => whnf)
      refine ⟨rfl, Rows.idxN hx02 (by omega) (fun p3 y3 hp3 hy3 => ?_)⟩
      (conv => whnf)
      refine ⟨rfl, hp3.load ?_⟩
      (conv => whnf)
      refine ⟨rfl, Ints.idxN hx12 (by omega) (fun p2 hp2 => ?_)⟩
      rw [hj] at hp2
      (conv => whnf)
      refine ⟨rfl, hp2.load ?_⟩
      (conv => whnf)
      refine ⟨rfl, Ints.idxN hy3 (by omega) (fun p4 hp4 => ?_)⟩
      (conv => whnf)
      refine ⟨rfl, hp4.load ?_⟩
      rw [ent_eq]
      (conv => whnf)
      refine HLit.one ?_
      (conv => whnf)
      refine ⟨rfl, rfl, HApp.snocR O (by omega) (fun h3 r3 y5 B3 hr3 O3 => ?_)⟩
      have es : pickRow c o i (b + 1) = pickRow c o i b ++ [ent c i j] := by rw [pickRow_succ, hj]; rfl
      rw [← es] at O3
      (conv => whnf)
      refine HArith.fits (by omega) (by omega) ?_
      (conv => whnf)
      exact ⟨⟨b + 1, y5, r3, rfl, by omega, E2.but B3 hr, by omega, O3⟩, by show o.length - (b + 1) < o.length - b; omega⟩
    · have e : b = o.length := by omega
      subst e
      have er : pickTo c o (a + 1) = pickTo c o a ++ [pickRow c o i o.length] := by rw [pickTo_succ, hi]; rfl
      have F := O.own hr
      (conv => whnf)
      refine HLit.row F.one ?_
      (conv => whnf)
      refine ⟨rfl, rfl, HApp.snocM E OM E2 F (by omega) (fun h5 y5 E5 O5 => ?_)⟩
      rw [← er] at O5
      (conv => whnf)
      refine HArith.fits (by omega) (by omega) ?_
      (conv => whnf)
      exact ⟨⟨a + 1, y5, rfl, by omega, E5, O5⟩, by show o.length - (a + 1) < o.length - a; omega⟩
  · have e : a = o.length := by omega
    subst e
    (conv => whnf)
    exact ⟨_, rfl, E, OM⟩

theorem spec_WitnessOf (h : Heap) (x : H0) (c : List (List Int)) (hx : Rows h x c) (hic : isCartan c = true) :
    HCalls dm Try.prog 97 [.s x] h (fun r h' => ∃ (y : H0) (l : List Int), r = .s y ∧ Ext h h' ∧ Ints h' y l ∧ (l.length = 0 ↔ allPos c = true)) := by
  have hC := (isCartan_iff c).1 hic
  have h4 := hC.le
  have h16 := pow_le16 (n := c.length) (by omega)
  refine calls_of_hFun (m := 0) kd_ok mixed Try.func97 rfl (by kernel_rfl) rfl rfl (of_decide_eq_true rfl) ?_; unfold hFun; (conv => whnf)
  refine (spec_IsCartan _ _ _ hx (by omega)).mono ?_
  rintro r h1 ⟨rfl, hh⟩
  subst h1
  rw [hic]
  (conv => whnf)
  refine HIf.no ?_
  (conv => whnf)
  refine ⟨rfl, hx.len ?_⟩
  (conv => whnf)
  refine (spec_l4Sets _ c.length (by omega)).mono ?_
  rintro r h1 ⟨y1, rfl, E1, OM⟩
  have hsl := setsTo_len (2 ^ c.length - 1)
  (conv => whnf)
  refine HLoop.intro [4] [14, 15, 16, 17, 21, 22, 23, 24, 25, 26, 20, 27, 28, 5, 6, 29, 30, 31, 32, 33, 34, 35, 2, 18, 19, 4] (by kernel_rfl) (by kernel_rfl) (fun vs h' => ∃ k : Nat, vs = [I k] ∧ k ≤ 2 ^ c.length - 1 ∧ Ext h1 h' ∧ ∀ t, t < k → 0 < dt c (t + 1)) (fun vs _ => 16 - natAt vs 0) ⟨0, rfl, by omega, Ext.refl _, fun t ht => by omega⟩ ?_
  rintro vs h' ⟨k, rfl, hk, E2, hb⟩
  have R := (OM.ext E2).rows
  have E := E1.trans E2
  (conv => whnf)
  refine ⟨rfl, R.len ?_⟩
  rw [hsl]
  (conv => whnf)
  refine HIf.dec (fun hlt => ?_) (fun hge => ?_)
  · have hg := setsTo_get (k := k) (n := 2 ^ c.length - 1) (by omega)
    obtain ⟨f1, f2, f3⟩ := setB_fits c.length (by omega) (k + 1) (by omega) (by omega)
    have hs4 := set_len4 (k + 1)
    (conv => whnf)
    refine ⟨rfl, Rows.idxN R (by omega) (fun p z hp hz => ?_)⟩
    rw [hg] at hz
    (conv => whnf)
    refine ⟨rfl, hp.load ?_⟩
    (conv => whnf)
    refine (spec_SubCartan _ _ c _ _ (hx.ext E) hz hic f2 f3 hs4 f1).mono ?_
    rintro v h3 ⟨y3, rfl, E3, O3⟩
    (conv => whnf)
    refine (spec_l4Det _ hs4 _ _ _ O3.rows (pick_sq hC f2)).mono ?_
    rintro v h5 ⟨rfl, E5⟩
    have E35 := E3.trans E5
    have R5 := R.ext E35
    have ed : detZ (setB (k + 1)).length (pick c (setB (k + 1))) = dt c (k + 1) := rfl
    rw [ed]
    (conv => whnf)
    refine HIf.dec (fun hle => ?_) (fun hpos => ?_)
    · have hap := allPos_not (c := c) (k := k) (by omega) hle
      (conv => whnf)
      refine ⟨rfl, Rows.idxN R5 (by omega) (fun p7 z7 hp7 hz7 => ?_)⟩
      rw [hg] at hz7
      (conv => whnf)
      refine ⟨rfl, hp7.load ?_⟩
      (conv => whnf)
      exact ⟨_, _, rfl, E.trans E35, hz7, ⟨fun h => absurd h f1, fun h => by rw [hap] at h; cases h⟩⟩
    · (conv => whnf)
      refine HArith.fits (by omega) (by omega) ?_
      (conv => whnf)
      refine ⟨⟨k + 1, rfl, by omega, E2.trans E35, fun t ht => ?_⟩, by show 16 - (k + 1) < 16 - k; omega⟩
      by_cases e : t = k
      · subst e; omega
      · exact hb t (by omega)
  · have hap := allPos_of (c := c) (fun t ht => hb t (by omega))
    (conv => whnf)
    refine HLit.empty ?_
    (conv => whnf)
    exact ⟨_, [], rfl, E.trans (Ext.push _ _), (OwnR.push _ []).ints, ⟨fun _ => hap, fun _ => rfl⟩⟩

theorem spec_IsFinite (h : Heap) (x : H0) (c : List (List Int)) (hx : Rows h x c) (hcl : c.length ≤ 1048576) :
    HCalls dm Try.prog 76 [.s x] h (fun r h' => r = B (isFinite c) ∧ Ext h h') := by
  refine calls_of_hFun (m := 0) kd_ok mixed Try.func76 rfl (by kernel_rfl) rfl rfl (of_decide_eq_true rfl) ?_; unfold hFun; (conv => whnf)
  refine (spec_IsCartan _ _ _ hx (by omega)).mono ?_
  rintro r h1 ⟨rfl, hh⟩
  subst h1
  (conv => whnf)
  cases hic : isCartan c
  · (repeat (first | (refine HIf.no ?_; conv => whnf)))
    exact ⟨bEq (isFinite_off hic), Ext.refl _⟩
  refine HIf.yes ?_
  (conv => whnf)
  refine HIf.yes ?_
  (conv => whnf)
  refine (spec_WitnessOf _ _ c hx hic).mono ?_
  rintro r h1 ⟨y, l, rfl, E, hl, hiff⟩
  have hfin := isFinite_on hic hiff
  (conv => whnf)
  (repeat (first | (refine HIf.yes ?_; conv => whnf) | (refine ⟨rfl, hl.len ?_⟩; conv => whnf)))
  exact ⟨bEq hfin.symm, E⟩

end Go.Proofs.Ytjgnnjegaedinaa.Hx

namespace Go.Proofs.Ytjgnnjegaedinaa.Hx
open Go.RowKit
variable {dm : Bool}

def ordF (c : List (List Int)) (w : List Int) : Nat → List Int → Nat → Int
  | 0, _, _ => 0
  | f + 1, p, k => if (normF c (p ++ w)).length = 0 then (k : Int) else if 15 < (normF c (p ++ w)).length then 0 else ordF c w f (normF c (p ++ w)) (k + 1)
def ordG (c : List (List Int)) (w : List Int) (f : Nat) (y : List Int) (k : Nat) : Int := if y.length = 0 then (k : Int) else if 15 < y.length then 0 else ordF c w f y (k + 1)
def orderOf (c : List (List Int)) (w : List Int) : Int := if isWord c w && (isFinite c || decide ((normF c w).length ≤ 7)) then ordF c w 60 [] 1 else 0

theorem ordF_none (c : List (List Int)) (w p : List Int) (k : Nat) : ordF c w 0 p k = 0 := rfl
theorem ordF_succ (c : List (List Int)) (w p : List Int) (f k : Nat) : ordF c w (f + 1) p k = ordG c w f (normF c (p ++ w)) k := rfl
theorem ordG_zero {c : List (List Int)} {w y : List Int} {f k : Nat} (h : y.length = 0) : ordG c w f y k = k := by
  unfold ordG
  rw [if_pos h]
theorem ordG_big {c : List (List Int)} {w y : List Int} {f k : Nat} (h : 15 < y.length) : ordG c w f y k = 0 := by
  unfold ordG
  rw [if_neg (by omega), if_pos h]
theorem ordG_next {c : List (List Int)} {w y : List Int} {f k : Nat} (h : y.length ≠ 0) (h2 : ¬ 15 < y.length) : ordG c w f y k = ordF c w f y (k + 1) := by
  unfold ordG
  rw [if_neg h, if_neg h2]
theorem orderOf_off {c : List (List Int)} {w : List Int} (h : isWord c w = false) : orderOf c w = 0 := by simp [orderOf, h]
theorem orderOf_inf {c : List (List Int)} {w : List Int} (h : isFinite c = false) (h2 : ¬ (normF c w).length ≤ 7) : orderOf c w = 0 := by
  have : decide ((normF c w).length ≤ 7) = false := decide_eq_false h2
  unfold orderOf
  rw [h, this, Bool.or_false, Bool.and_false]
  rfl
theorem orderOf_on {c : List (List Int)} {w : List Int} (h : isWord c w = true) (h2 : isFinite c = true ∨ (normF c w).length ≤ 7) : orderOf c w = ordF c w 60 [] 1 := by
  unfold orderOf
  rw [h, Bool.true_and, if_pos]
  rcases h2 with h2 | h2
  · rw [h2]; rfl
  · rw [decide_eq_true h2, Bool.or_true]


theorem impl_OrderOfElement (h : Heap) (x0 : H0) (a0 : List (List Int)) (x1 : H0) (a1 : List Int) (hx0 : Rows h x0 a0) (hx1 : Ints h x1 a1) (s0 : a0.length ≤ 1048576 ∧ tot a0 ≤ 1048576) (s1 : a1.length ≤ 1048576) :
    HCalls dm Try.prog 42 [.s x0, .s x1] h (fun r h' => r = I (orderOf a0 a1) ∧ Ext h h') := by
  obtain ⟨T, hT⟩ : ∃ T, T = orderOf a0 a1 := ⟨_, rfl⟩
  rw [← hT]
  refine calls_of_hFun (m := 0) kd_ok mixed Try.func42 rfl (by kernel_rfl) rfl rfl (of_decide_eq_true rfl) ?_; unfold hFun; (conv => whnf)
  refine (impl_IsWord _ _ _ a0 a1 hx0 hx1 (by omega) (by omega)).mono ?_
  rintro r h1 ⟨rfl, hh⟩
  subst h1
  (conv => whnf)
  cases hic : isWord a0 a1
  · rw [orderOf_off hic] at hT
    subst hT
    (repeat (first | (refine HIf.yes ?_; conv => whnf) | (refine HIf.no ?_; conv => whnf)))
    exact ⟨rfl, Ext.refl _⟩
  obtain ⟨hC, hl, hw⟩ := word_cartan hic
  refine HIf.no ?_
  (conv => whnf)
  refine HIf.no ?_
  (conv => whnf)
  refine (impl_IsFinite _ _ a0 hx0 (by omega)).mono ?_
  rintro r h2 ⟨rfl, E2⟩
  (conv => whnf)
  have bad : isFinite a0 = false → ¬ (normF a0 a1).length ≤ 7 → T = 0 := fun g1 g2 => by rw [hT, orderOf_inf g1 g2]
  have on : (isFinite a0 = true ∨ (normF a0 a1).length ≤ 7) → T = ordF a0 a1 60 [] 1 := fun g => by rw [hT, orderOf_on hic g]
  clear hT
  cases hfin : isFinite a0
  · have hno := bad hfin
    have hyes := fun g => on (Or.inr g)
    (repeat (first | (refine HIf.yes ?_; conv => whnf) | (refine HIf.no ?_; conv => whnf)))
    refine (impl_lengthOf _ _ a0 _ a1 (hx0.ext E2) (hx1.ext E2) hC hw (by omega)).mono ?_
    rintro r h3 ⟨rfl, E3⟩
    have E23 := E2.trans E3
    (conv => whnf)
    (repeat (first | (refine HIf.yes ?_; conv => whnf) | (refine HIf.no ?_; conv => whnf)))
    refine HIf.dec (fun h7 => ?_) (fun h7 => ?_)
    · have e := hno (by omega)
      subst e
      (conv => whnf)
      exact ⟨rfl, E23⟩
    have e := hyes (by omega)
    (conv => whnf)
    refine HLit.empty ?_
    (conv => whnf)
    refine HLoop.intro [6, 5] [23, 24, 27, 28, 29, 30, 31, 5, 32, 33, 34, 35, 4, 36, 37, 38, 4, 25, 26, 6] (by kernel_rfl) (by kernel_rfl) (fun vs h' => ∃ (k : Nat) (y : H0) (l : List Int), vs = [I k, .s y] ∧ 1 ≤ k ∧ k ≤ 61 ∧ Ext h h' ∧ Own h.length h'.length h' y l ∧ l.length ≤ 15 ∧ lettersOk a0 l = true ∧ ordF a0 a1 (61 - k) l k = T) (fun vs _ => 61 - natAt vs 0) ⟨1, _, [], rfl, by omega, by omega, E23.trans (Ext.push _ _), (OwnR.push h3 []).own E23.1, by simp, rfl, e.symm⟩ ?_
    rintro vs h' ⟨k, y, l, rfl, hk1, hk, E, O, hl15, hlw, ho⟩
    (conv => whnf)
    refine HIf.dec (fun hle => ?_) (fun hgt => ?_)
    · obtain ⟨f, hf⟩ : ∃ f, 61 - k = f + 1 := ⟨60 - k, by omega⟩
      rw [hf, ordF_succ] at ho
      have hla : lettersOk a0 (l ++ a1) = true := by rw [lettersOk_app, hlw, hw]; rfl
      have hlen : (l ++ a1).length ≤ 30 := by rw [List.length_append]; omega
      have hnl := normF_letters hC hla hlen
      (conv => whnf)
      refine (impl_ConcatWords _ _ l _ a1 O.ints (hx1.ext E) (by omega) s1).mono ?_
      rintro r h5 ⟨y5, rfl, E5, hy5⟩
      (conv => whnf)
      refine (impl_reduced _ _ a0 _ _ ((hx0.ext E).ext E5) hy5 hC hla hlen).mono ?_
      rintro r h6 ⟨y6, rfl, f6⟩
      have hz := Fresh.inner (E.trans E5) f6
      have hy6 := f6.ints
      generalize normF a0 (l ++ a1) = q at *
      (conv => whnf)
      refine ⟨rfl, hy6.len ?_⟩
      (conv => whnf)
      refine HIf.beq (fun h0 => ?_) (fun h0 => ?_)
      · rw [ordG_zero (by omega)] at ho
        subst ho
        (conv => whnf)
        exact ⟨rfl, hz.1⟩
      (conv => whnf)
      refine ⟨rfl, hy6.len ?_⟩
      (conv => whnf)
      refine HIf.dec (fun h15 => ?_) (fun h15 => ?_)
      · rw [ordG_big (by omega)] at ho
        subst ho
        (conv => whnf)
        exact ⟨rfl, hz.1⟩
      · rw [ordG_next (by omega) (by omega)] at ho
        (conv => whnf)
        refine HArith.fits (by omega) (by omega) ?_
        (conv => whnf)
        exact ⟨⟨k + 1, y6, q, rfl, by omega, by omega, hz.1, hz.2, by omega, hnl, by rw [← ho]; congr 1; omega⟩, by show 61 - (k + 1) < 61 - k; omega⟩
    · have ek : k = 61 := by omega
      subst ek
      rw [ordF_none] at ho
      subst ho
      (conv => whnf)
      exact ⟨rfl, E⟩
  · have e := on (Or.inl hfin)
    (repeat (first | (refine HIf.yes ?_; conv => whnf) | (refine HIf.no ?_; conv => whnf)))
    refine HLit.empty ?_
    (conv => whnf)
    refine HLoop.intro [6, 5] [23, 24, 27, 28, 29, 30, 31, 5, 32, 33, 34, 35, 4, 36, 37, 38, 4, 25, 26, 6] (by kernel_rfl) (by kernel_rfl) (fun vs h' => ∃ (k : Nat) (y : H0) (l : List Int), vs = [I k, .s y] ∧ 1 ≤ k ∧ k ≤ 61 ∧ Ext h h' ∧ Own h.length h'.length h' y l ∧ l.length ≤ 15 ∧ lettersOk a0 l = true ∧ ordF a0 a1 (61 - k) l k = T) (fun vs _ => 61 - natAt vs 0) ⟨1, _, [], rfl, by omega, by omega, E2.trans (Ext.push _ _), (OwnR.push h2 []).own E2.1, by simp, rfl, e.symm⟩ ?_
    rintro vs h' ⟨k, y, l, rfl, hk1, hk, E, O, hl15, hlw, ho⟩
    (conv => whnf)
    refine HIf.dec (fun hle => ?_) (fun hgt => ?_)
    · obtain ⟨f, hf⟩ : ∃ f, 61 - k = f + 1 := ⟨60 - k, by omega⟩
      rw [hf, ordF_succ] at ho
      have hla : lettersOk a0 (l ++ a1) = true := by rw [lettersOk_app, hlw, hw]; rfl
      have hlen : (l ++ a1).length ≤ 30 := by rw [List.length_append]; omega
      have hnl := normF_letters hC hla hlen
      (conv => whnf)
      refine (impl_ConcatWords _ _ l _ a1 O.ints (hx1.ext E) (by omega) s1).mono ?_
      rintro r h5 ⟨y5, rfl, E5, hy5⟩
      (conv => whnf)
      refine (impl_reduced _ _ a0 _ _ ((hx0.ext E).ext E5) hy5 hC hla hlen).mono ?_
      rintro r h6 ⟨y6, rfl, f6⟩
      have hz := Fresh.inner (E.trans E5) f6
      have hy6 := f6.ints
      generalize normF a0 (l ++ a1) = q at *
      (conv => whnf)
      refine ⟨rfl, hy6.len ?_⟩
      (conv => whnf)
      refine HIf.beq (fun h0 => ?_) (fun h0 => ?_)
      · rw [ordG_zero (by omega)] at ho
        subst ho
        (conv => whnf)
        exact ⟨rfl, hz.1⟩
      (conv => whnf)
      refine ⟨rfl, hy6.len ?_⟩
      (conv => whnf)
      refine HIf.dec (fun h15 => ?_) (fun h15 => ?_)
      · rw [ordG_big (by omega)] at ho
        subst ho
        (conv => whnf)
        exact ⟨rfl, hz.1⟩
      · rw [ordG_next (by omega) (by omega)] at ho
        (conv => whnf)
        refine HArith.fits (by omega) (by omega) ?_
        (conv => whnf)
        exact ⟨⟨k + 1, y6, q, rfl, by omega, by omega, hz.1, hz.2, by omega, hnl, by rw [← ho]; congr 1; omega⟩, by show 61 - (k + 1) < 61 - k; omega⟩
    · have ek : k = 61 := by omega
      subst ek
      rw [ordF_none] at ho
      subst ho
      (conv => whnf)
      exact ⟨rfl, E⟩

theorem spec_OrderOfElement (h : Heap) (x0 : H0) (a0 : List (List Int)) (x1 : H0) (a1 : List Int) (hx0 : Rows h x0 a0) (hx1 : Ints h x1 a1) (s0 : a0.length ≤ 1048576 ∧ tot a0 ≤ 1048576) (s1 : a1.length ≤ 1048576) :
    HCalls dm Try.prog 43 [.s x0, .s x1] h (fun r h' => r = I (orderOf a0 a1) ∧ Ext h h') := by
  obtain ⟨T, hT⟩ : ∃ T, T = orderOf a0 a1 := ⟨_, rfl⟩
  rw [← hT]
  refine calls_of_hFun (m := 0) kd_ok mixed Try.func43 rfl (by kernel_rfl) rfl rfl (of_decide_eq_true rfl) ?_; unfold hFun; (conv => whnf)
  refine (spec_NormalForm _ _ a0 _ a1 hx0 hx1 s0 s1).mono ?_
  rintro r h1 ⟨y1, rfl, f1⟩
  have E1 := f1.1
  (conv => whnf)
  cases hic : isWord a0 a1
  · rw [orderOf_off hic] at hT
    subst hT
    (repeat (first | (refine HIf.yes ?_; conv => whnf) | (refine HIf.no ?_; conv => whnf)))
    exact ⟨rfl, E1⟩
  obtain ⟨hC, hl, hw⟩ := word_cartan hic
  have bad : isFinite a0 = false → ¬ (normF a0 a1).length ≤ 7 → T = 0 := fun g1 g2 => by rw [hT, orderOf_inf g1 g2]
  have on : (isFinite a0 = true ∨ (normF a0 a1).length ≤ 7) → T = ordF a0 a1 60 [] 1 := fun g => by rw [hT, orderOf_on hic g]
  clear hT
  rw [normalForm_on hic] at f1
  have hnw := normF_word hic
  have hnl := normF_letters hC hw (by omega)
  have happ := fun y => normF_app (c := a0) (a := y) hC hw (by omega)
  have hfirst : ordF a0 a1 60 [] 1 = ordG a0 a1 59 (normF a0 a1) 1 := by rw [ordF_succ, List.nil_append]
  rw [hfirst] at on
  clear hfirst
  generalize hX : normF a0 a1 = X at *
  have hy1 := f1.ints
  (repeat (first | (refine HIf.yes ?_; conv => whnf) | (refine HIf.no ?_; conv => whnf) | (refine ⟨rfl, hy1.len ?_⟩; conv => whnf)))
  by_cases h7 : (X.length : Int) > 7
  · refine HIf.decT h7 ?_
    (conv => whnf)
    refine HIf.decT h7 ?_
    (conv => whnf)
    refine (spec_IsFinite _ _ a0 (hx0.ext E1) (by omega)).mono ?_
    rintro r h2 ⟨rfl, E2⟩
    (conv => whnf)
    refine HIf.decT h7 ?_
    (conv => whnf)
    refine HIf.no ?_
    (conv => whnf)
    refine HIf.decT h7 ?_
    (conv => whnf)
    refine HIf.no ?_
    (conv => whnf)
    cases hfin : isFinite a0
    · have e := bad hfin (by omega)
      subst e
      refine HIf.yes ?_
      (conv => whnf)
      exact ⟨rfl, E1.trans E2⟩
    have e := on (Or.inl hfin)
    refine HIf.no ?_
    (conv => whnf)
    refine HLit.empty ?_
    (conv => whnf)
    refine ⟨rfl, rfl, HApp.copy (hy1.ext E2) (by omega) (fun h5 y5 E5 O5 => ?_)⟩
    obtain ⟨q5, hq1, hq2, Oq5⟩ := O5.row
    have hE2 := E2.1
    (conv => whnf)
    refine HLoop.intro [8, 7] [30, 31, 34, 35, 36, 37, 4, 38, 39, 40, 41, 42, 7, 43, 44, 45, 4, 32, 33, 8] (by kernel_rfl) (by kernel_rfl) (fun vs h' => ∃ (k : Nat) (y : H0) (l : List Int), vs = [I k, .s y] ∧ 1 ≤ k ∧ k ≤ 61 ∧ Ext h1 h' ∧ Own h1.length h'.length h' y l ∧ l.length ≤ 15 ∧ lettersOk a0 l = true ∧ ((k ≤ 60 ∧ ordG a0 a1 (60 - k) l k = T) ∨ (k = 61 ∧ T = 0))) (fun vs _ => 61 - natAt vs 0) ⟨1, y5, X, rfl, by omega, by omega, E2.trans E5, Oq5.own (by omega), by omega, hnl, Or.inl ⟨by omega, e.symm⟩⟩ ?_
    rintro vs h' ⟨k, y, l, rfl, hk1, hk, E, O, hl15, hlw, ho⟩
    have Eh := E1.trans E
    (conv => whnf)
    refine HIf.dec (fun hle => ?_) (fun hgt => ?_)
    · have ho : ordG a0 a1 (60 - k) l k = T := by
        rcases ho with ⟨_, ho⟩ | ⟨hk61, _⟩
        · exact ho
        · omega
      have hOi := O.ints
      (conv => whnf)
      refine ⟨rfl, hOi.len ?_⟩
      (conv => whnf)
      refine HIf.beq (fun h0 => ?_) (fun h0 => ?_)
      · rw [ordG_zero (by omega)] at ho
        subst ho
        (conv => whnf)
        exact ⟨rfl, Eh⟩
      rw [ordG_next (by omega) (by omega)] at ho
      have hla : lettersOk a0 (l ++ X) = true := by rw [lettersOk_app, hlw, hnl]; rfl
      have hlen : (l ++ X).length ≤ 30 := by rw [List.length_append]; omega
      have hnq := normF_letters hC hla hlen
      have hap := happ l
      (conv => whnf)
      refine (spec_ConcatWords _ _ l _ X hOi (hy1.ext E) (by omega) (by omega)).mono ?_
      rintro r h6 ⟨y6, rfl, f6⟩
      (conv => whnf)
      refine (spec_l8Normal _ _ a0 _ _ ((hx0.ext Eh).ext f6.1) f6.ints hC hla hlen).mono ?_
      rintro r h7 ⟨y7, rfl, f7⟩
      have hz := Fresh.inner (E.trans f6.1) f7
      have hy7 := f7.ints
      rw [hap] at hz hy7 hnq
      clear hap
      have hT : (k = 60 ∧ T = 0) ∨ (k < 60 ∧ ordG a0 a1 (60 - (k + 1)) (normF a0 (l ++ a1)) (k + 1) = T) := by
        by_cases h60 : k = 60
        · subst h60
          exact Or.inl ⟨rfl, by rw [← ho, ordF_none]⟩
        · obtain ⟨f, hf⟩ : ∃ f, 60 - k = f + 1 := ⟨59 - k, by omega⟩
          rw [hf, ordF_succ] at ho
          exact Or.inr ⟨by omega, by rw [← ho]; congr 1; omega⟩
      generalize normF a0 (l ++ a1) = q at *
      (conv => whnf)
      refine ⟨rfl, hy7.len ?_⟩
      (conv => whnf)
      refine HIf.dec (fun h15 => ?_) (fun h15 => ?_)
      · have hT0 : T = 0 := by
          rcases hT with ⟨_, h⟩ | ⟨_, h⟩
          · exact h
          · rw [← h, ordG_big (by omega)]
        subst hT0
        (conv => whnf)
        exact ⟨rfl, E1.trans hz.1⟩
      · (conv => whnf)
        refine HArith.fits (by omega) (by omega) ?_
        (conv => whnf)
        refine ⟨⟨k + 1, y7, q, rfl, by omega, by omega, hz.1, hz.2, by omega, hnq, ?_⟩, by show 61 - (k + 1) < 61 - k; omega⟩
        rcases hT with ⟨h, h2⟩ | ⟨h, h2⟩
        · exact Or.inr ⟨by omega, h2⟩
        · exact Or.inl ⟨by omega, h2⟩
    · have hT0 : T = 0 := by
        rcases ho with ⟨h, _⟩ | ⟨_, h⟩
        · omega
        · exact h
      subst hT0
      (conv => whnf)
      exact ⟨rfl, Eh⟩
  · have e := on (Or.inr (by omega))
    have Er := Ext.refl h1
    refine HIf.decF h7 ?_
    (conv => whnf)
    refine HIf.decF h7 ?_
    (conv => whnf)
    refine HIf.decF h7 ?_
    (conv => whnf)
    refine HIf.no ?_
    (conv => whnf)
    refine HIf.decF h7 ?_
    (conv => whnf)
    refine HIf.no ?_
    (conv => whnf)
    refine HIf.no ?_
    (conv => whnf)
    refine HLit.empty ?_
    (conv => whnf)
    refine ⟨rfl, rfl, HApp.copy (hy1.ext Er) (by omega) (fun h5 y5 E5 O5 => ?_)⟩
    obtain ⟨q5, hq1, hq2, Oq5⟩ := O5.row
    have hEr := Er.1
    (conv => whnf)
    refine HLoop.intro [8, 7] [30, 31, 34, 35, 36, 37, 4, 38, 39, 40, 41, 42, 7, 43, 44, 45, 4, 32, 33, 8] (by kernel_rfl) (by kernel_rfl) (fun vs h' => ∃ (k : Nat) (y : H0) (l : List Int), vs = [I k, .s y] ∧ 1 ≤ k ∧ k ≤ 61 ∧ Ext h1 h' ∧ Own h1.length h'.length h' y l ∧ l.length ≤ 15 ∧ lettersOk a0 l = true ∧ ((k ≤ 60 ∧ ordG a0 a1 (60 - k) l k = T) ∨ (k = 61 ∧ T = 0))) (fun vs _ => 61 - natAt vs 0) ⟨1, y5, X, rfl, by omega, by omega, Er.trans E5, Oq5.own (by omega), by omega, hnl, Or.inl ⟨by omega, e.symm⟩⟩ ?_
    rintro vs h' ⟨k, y, l, rfl, hk1, hk, E, O, hl15, hlw, ho⟩
    have Eh := E1.trans E
    (conv => whnf)
    refine HIf.dec (fun hle => ?_) (fun hgt => ?_)
    · have ho : ordG a0 a1 (60 - k) l k = T := by
        rcases ho with ⟨_, ho⟩ | ⟨hk61, _⟩
        · exact ho
        · omega
      have hOi := O.ints
      (conv => whnf)
      refine ⟨rfl, hOi.len ?_⟩
      (conv => whnf)
      refine HIf.beq (fun h0 => ?_) (fun h0 => ?_)
      · rw [ordG_zero (by omega)] at ho
        subst ho
        (conv => whnf)
        exact ⟨rfl, Eh⟩
      rw [ordG_next (by omega) (by omega)] at ho
      have hla : lettersOk a0 (l ++ X) = true := by rw [lettersOk_app, hlw, hnl]; rfl
      have hlen : (l ++ X).length ≤ 30 := by rw [List.length_append]; omega
      have hnq := normF_letters hC hla hlen
      have hap := happ l
      (conv => whnf)
      refine (spec_ConcatWords _ _ l _ X hOi (hy1.ext E) (by omega) (by omega)).mono ?_
      rintro r h6 ⟨y6, rfl, f6⟩
      (conv => whnf)
      refine (spec_l8Normal _ _ a0 _ _ ((hx0.ext Eh).ext f6.1) f6.ints hC hla hlen).mono ?_
      rintro r h7 ⟨y7, rfl, f7⟩
      have hz := Fresh.inner (E.trans f6.1) f7
      have hy7 := f7.ints
      rw [hap] at hz hy7 hnq
      clear hap
      have hT : (k = 60 ∧ T = 0) ∨ (k < 60 ∧ ordG a0 a1 (60 - (k + 1)) (normF a0 (l ++ a1)) (k + 1) = T) := by
        by_cases h60 : k = 60
        · subst h60
          exact Or.inl ⟨rfl, by rw [← ho, ordF_none]⟩
        · obtain ⟨f, hf⟩ : ∃ f, 60 - k = f + 1 := ⟨59 - k, by omega⟩
          rw [hf, ordF_succ] at ho
          exact Or.inr ⟨by omega, by rw [← ho]; congr 1; omega⟩
      generalize normF a0 (l ++ a1) = q at *
      (conv => whnf)
      refine ⟨rfl, hy7.len ?_⟩
      (conv => whnf)
      refine HIf.dec (fun h15 => ?_) (fun h15 => ?_)
      · have hT0 : T = 0 := by
          rcases hT with ⟨_, h⟩ | ⟨_, h⟩
          · exact h
          · rw [← h, ordG_big (by omega)]
        subst hT0
        (conv => whnf)
        exact ⟨rfl, E1.trans hz.1⟩
      · (conv => whnf)
        refine HArith.fits (by omega) (by omega) ?_
        (conv => whnf)
        refine ⟨⟨k + 1, y7, q, rfl, by omega, by omega, hz.1, hz.2, by omega, hnq, ?_⟩, by show 61 - (k + 1) < 61 - k; omega⟩
        rcases hT with ⟨h, h2⟩ | ⟨h, h2⟩
        · exact Or.inr ⟨by omega, h2⟩
        · exact Or.inl ⟨by omega, h2⟩
    · have hT0 : T = 0 := by
        rcases ho with ⟨h, _⟩ | ⟨_, h⟩
        · omega
        · exact h
      subst hT0
      (conv => whnf)
      exact ⟨rfl, Eh⟩

end Go.Proofs.Ytjgnnjegaedinaa.Hx
