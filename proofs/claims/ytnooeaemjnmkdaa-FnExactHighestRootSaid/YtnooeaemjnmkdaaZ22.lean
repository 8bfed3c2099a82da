/-
  Contracts of finite types, of the program and of the reference.
  The contracts of PositiveRoots, AddWeights and IsClosedSet, of the program and of the reference.
  The contracts of IsClosedSet, of the program and of the reference.
-/
import Derived.Test.YtnooeaemjnmkdaaZ21
namespace Go.Proofs.Ytnooeaemjnmkdaa.Hx
open Go.RowKit

def minorsTo (c : List (List Int)) (k : Nat) : List Int := (List.range k).map fun t => dt c (t + 1)
theorem minorsTo_none (c : List (List Int)) : minorsTo c 0 = [] := rfl
theorem minorsTo_len (c : List (List Int)) (k : Nat) : (minorsTo c k).length = k := by simp [minorsTo]
theorem minorsTo_succ (c : List (List Int)) (k : Nat) : minorsTo c (k + 1) = minorsTo c k ++ [dt c (k + 1)] := by
  unfold minorsTo
  rw [List.range_succ, List.map_append]
  rfl
theorem minorsTo_get {c : List (List Int)} {k n : Nat} (h : k < n) : (minorsTo c n).getD k 0 = dt c (k + 1) := by simp [minorsTo, List.getD, h]
def setsTo (k : Nat) : List (List Int) := (List.range k).map fun t => setB (t + 1)
theorem setsTo_none : setsTo 0 = [] := rfl
theorem setsTo_len (k : Nat) : (setsTo k).length = k := by simp [setsTo]
theorem setsTo_succ (k : Nat) : setsTo (k + 1) = setsTo k ++ [setB (k + 1)] := by
  unfold setsTo
  rw [List.range_succ, List.map_append]
  rfl
theorem setsTo_get {k n : Nat} (h : k < n) : (setsTo n).getD k [] = setB (k + 1) := by simp [setsTo, List.getD, h]
theorem isFinite_off {c : List (List Int)} (h : isCartan c = false) : isFinite c = false := by simp [isFinite, h]
theorem isFinite_on {c : List (List Int)} (h : isCartan c = true) {l : List Int} (hl : l.length = 0 ↔ allPos c = true) : ((l.length : Int) == 0) = isFinite c := by
  have e : isFinite c = allPos c := by simp [isFinite, h]
  rw [e]
  by_cases h0 : l.length = 0
  · rw [hl.1 h0]
    exact beq_iff_eq.2 (by omega)
  · have : allPos c = false := by
      rw [Bool.eq_false_iff]
      exact fun e => h0 (hl.2 e)
    rw [this]
    exact beq_eq_false_iff_ne.2 (by omega)
theorem set_len4 (m : Nat) : (setB m).length ≤ 4 := setTo_len m 4

set_option smartUnfolding false

theorem impl_PrincipalMinors (h : Heap) (x : H0) (c : List (List Int)) (hx : Rows h x c) (hic : isCartan c = true) :
    HCalls Try.prog 96 [.s x] h (fun r h' => ∃ y, r = .s y ∧ Fresh h h' y (minorsTo c (2 ^ c.length - 1))) := by
  have hC := (isCartan_iff c).1 hic
  have h4 := hC.le
  have h16 := pow_le16 (n := c.length) (by omega)
  have E0 := Ext.push h [Row.own []]
  refine calls_of_hFun (m := 0) kd_ok mixed Try.func96 rfl (by kernel_rfl) rfl rfl (of_decide_eq_true rfl) ?_; unfold hFun; (conv => whnf)
  refine HLit.empty ?_
  (conv => whnf)
  refine (impl_IsCartan _ _ _ (hx.ext E0) (by omega)).mono ?_
  rintro r h1 ⟨rfl, hh⟩
  subst h1
  rw [hic]
  (conv => whnf)
  refine HIf.no ?_
  (conv => whnf)
  refine HLoop.intro [4, 3] [10, 11, 12, 13, 14, 17, 18, 19, 20, 21, 22, 23, 24, 3, 15, 16, 4] (by kernel_rfl) (by kernel_rfl) (fun vs h' => ∃ (k : Nat) (z : H0) (r : Nat), vs = [I ((k + 1 : Nat) : Int), .s z] ∧ k + 1 ≤ 2 ^ c.length ∧ Ext h h' ∧ h.length ≤ r ∧ OwnR r h' z (minorsTo c k)) (fun vs _ => 16 - natAt vs 0) ⟨0, _, h.length, rfl, Nat.one_le_two_pow, E0, Nat.le_refl _, OwnR.push h []⟩ ?_
  rintro vs h' ⟨k, z, r, rfl, hk, E, hr, O⟩
  have hml := minorsTo_len c k
  have hx1 := hx.ext E
  have hE := E.1
  (conv => whnf)
  refine ⟨rfl, hx1.len ?_⟩
  (conv => whnf)
  refine HShl.one (by omega) ?_
  (conv => whnf)
  refine HIf.dec (fun hlt => ?_) (fun hge => ?_)
  · obtain ⟨f1, f2, f3⟩ := setB_fits c.length (by omega) (k + 1) (by omega) (by omega)
    have hs4 := set_len4 (k + 1)
    (conv => whnf)
    refine (impl_setOf _ (k + 1) (by omega)).mono ?_
    rintro v h2 ⟨y2, rfl, g2⟩
    (conv => whnf)
    refine (impl_picked _ _ c _ _ (hx1.ext g2.1) g2.ints hC f2 hs4).mono ?_
    rintro v h3 ⟨y3, rfl, E3, O3⟩
    (conv => whnf)
    refine (impl_determinant _ hs4 _ _ _ O3.rows (pick_sq hC f2)).mono ?_
    rintro v h5 ⟨rfl, E5⟩
    have Eb := (g2.1.trans E3).trans E5
    have hEb := Eb.1
    have es : minorsTo c (k + 1) = minorsTo c k ++ [detZ (setB (k + 1)).length (pick c (setB (k + 1)))] := minorsTo_succ c k
    (conv => whnf)
    refine HLit.one ?_
    (conv => whnf)
    refine ⟨rfl, rfl, HApp.snocR (O.ext Eb) (by omega) (fun h6 r6 y6 B6 hr6 O6 => ?_)⟩
    rw [← es] at O6
    (conv => whnf)
    refine HArith.to (e' := ((k + 1 + 1 : Nat) : Int)) (by omega) (by omega) (by omega) ?_
    (conv => whnf)
    exact ⟨⟨k + 1, y6, r6, rfl, by omega, (E.trans Eb).but B6 hr, by omega, O6⟩, by show 16 - (k + 1 + 1) < 16 - (k + 1); omega⟩
  · have e : 2 ^ c.length - 1 = k := by omega
    rw [e]
    (conv => whnf)
    exact ⟨_, rfl, Fresh.ofRow E O hr⟩

theorem impl_WitnessOf (h : Heap) (x : H0) (c : List (List Int)) (hx : Rows h x c) (hic : isCartan c = true) :
    HCalls Try.prog 76 [.s x] h (fun r h' => ∃ (y : H0) (l : List Int), r = .s y ∧ Ext h h' ∧ Ints h' y l ∧ (l.length = 0 ↔ allPos c = true)) := by
  have hC := (isCartan_iff c).1 hic
  have h4 := hC.le
  have h16 := pow_le16 (n := c.length) (by omega)
  refine calls_of_hFun (m := 0) kd_ok mixed Try.func76 rfl (by kernel_rfl) rfl rfl (of_decide_eq_true rfl) ?_; unfold hFun; (conv => whnf)
  refine (impl_PrincipalMinors _ _ c hx hic).mono ?_
  rintro r h1 ⟨y1, rfl, f1⟩
  have hy := f1.ints
  have hml := minorsTo_len c (2 ^ c.length - 1)
  (conv => whnf)
  refine ⟨rfl, hy.len ?_⟩
  rw [hml]
  (conv => whnf)
  refine HLoop.intro [8] [9, 10, 11, 12, 3, 4, 13, 14, 15, 16, 17, 2, 18, 8] (by kernel_rfl) (by kernel_rfl) (fun vs h' => ∃ k : Nat, vs = [I k] ∧ k ≤ 2 ^ c.length - 1 ∧ h' = h1 ∧ ∀ t, t < k → 0 < dt c (t + 1)) (fun vs _ => 16 - natAt vs 0) ⟨0, rfl, by omega, rfl, fun t ht => by omega⟩ ?_
  rintro vs h' ⟨k, rfl, hk, hh, hb⟩
  subst h'
  (conv => whnf)
  refine HIf.dec (fun hlt => ?_) (fun hge => ?_)
  · have hg := minorsTo_get (c := c) (k := k) (n := 2 ^ c.length - 1) (by omega)
    (conv => whnf)
    refine ⟨rfl, Ints.idxN hy (by omega) (fun p hp => ?_)⟩
    rw [hg] at hp
    (conv => whnf)
    refine ⟨rfl, hp.load ?_⟩
    (conv => whnf)
    refine HIf.dec (fun hle => ?_) (fun hpos => ?_)
    · (conv => whnf)
      refine HArith.to (e' := ((k + 1 : Nat) : Int)) (by omega) (by omega) (by omega) ?_
      (conv => whnf)
      refine (impl_setOf _ (k + 1) (by omega)).mono ?_
      rintro v h2 ⟨y2, rfl, g2⟩
      have f1' := (setB_fits c.length (by omega) (k + 1) (by omega) (by omega)).1
      have hap := allPos_not (c := c) (k := k) (by omega) hle
      (conv => whnf)
      exact ⟨_, _, rfl, f1.1.trans g2.1, g2.ints, ⟨fun h => absurd h f1', fun h => by rw [hap] at h; cases h⟩⟩
    · (conv => whnf)
      refine HArith.fits (by omega) (by omega) ?_
      (conv => whnf)
      refine ⟨⟨k + 1, rfl, by omega, rfl, fun t ht => ?_⟩, by show 16 - (k + 1) < 16 - k; omega⟩
      by_cases e : t = k
      · subst e; omega
      · exact hb t (by omega)
  · have hap := allPos_of (c := c) (fun t ht => hb t (by omega))
    (conv => whnf)
    refine HLit.empty ?_
    (conv => whnf)
    exact ⟨_, [], rfl, f1.1.trans (Ext.push _ _), (OwnR.push _ []).ints, ⟨fun _ => hap, fun _ => rfl⟩⟩

theorem impl_IsFinite (h : Heap) (x : H0) (c : List (List Int)) (hx : Rows h x c) (hcl : c.length ≤ 1048576) :
    HCalls Try.prog 49 [.s x] h (fun r h' => r = B (isFinite c) ∧ Ext h h') := by
  refine calls_of_hFun (m := 0) kd_ok mixed Try.func49 rfl (by kernel_rfl) rfl rfl (of_decide_eq_true rfl) ?_; unfold hFun; (conv => whnf)
  refine (impl_IsCartan _ _ _ hx (by omega)).mono ?_
  rintro r h1 ⟨rfl, hh⟩
  subst h1
  (conv => whnf)
  cases hic : isCartan c
  · (repeat (first | (refine HIf.no ?_; conv => whnf)))
    exact ⟨bEq (isFinite_off hic), Ext.refl _⟩
  refine HIf.yes ?_
  (conv => whnf)
  refine HIf.yes ?_
  (conv => whnf)
  refine (impl_WitnessOf _ _ c hx hic).mono ?_
  rintro r h1 ⟨y, l, rfl, E, hl, hiff⟩
  have hfin := isFinite_on hic hiff
  (conv => whnf)
  (repeat (first | (refine HIf.yes ?_; conv => whnf) | (refine ⟨rfl, hl.len ?_⟩; conv => whnf)))
  exact ⟨bEq hfin.symm, E⟩

theorem spec_l4Sets (h : Heap) (n : Nat) (hn : n < 5) :
    HCalls Try.prog 93 [I n] h (fun r h' => ∃ y, r = .s y ∧ Ext h h' ∧ OwnM h.length h'.length h' y (setsTo (2 ^ n - 1))) := by
  have h16 := pow_le16 hn
  refine calls_of_hFun (m := 0) kd_ok mixed Try.func93 rfl (by kernel_rfl) rfl rfl (of_decide_eq_true rfl) ?_; unfold hFun; (conv => whnf)
  refine HLit.empty ?_
  (conv => whnf)
  refine HLoop.intro [4, 3] [8, 9, 10, 11, 14, 5, 6, 15, 16, 17, 20, 21, 22, 23, 24, 25, 26, 27, 28, 5, 18, 19, 6, 29, 30, 31, 32, 3, 12, 13, 4] (by kernel_rfl) (by kernel_rfl) (fun vs h' => ∃ (k : Nat) (z : H0), vs = [I ((k + 1 : Nat) : Int), .s z] ∧ k + 1 ≤ 2 ^ n ∧ Ext h h' ∧ OwnM h.length h'.length h' z (setsTo k)) (fun vs _ => 16 - natAt vs 0) ⟨0, _, rfl, Nat.one_le_two_pow, Ext.push _ _, OwnM.none h⟩ ?_
  rintro vs h' ⟨k, z, rfl, hk, E, OM⟩
  have hsl := setsTo_len k
  (conv => whnf)
  refine HShl.one hn ?_
  (conv => whnf)
  refine HIf.dec (fun hlt => ?_) (fun hge => ?_)
  · have Ep := Ext.push h' [Row.own []]
    (conv => whnf)
    refine HLit.empty ?_
    (conv => whnf)
    refine HLoop.intro [6, 5] [15, 16, 17, 20, 21, 22, 23, 24, 25, 26, 27, 28, 5, 18, 19, 6] (by kernel_rfl) (by kernel_rfl) (fun vs h2 => ∃ (b : Nat) (y : H0) (r : Nat), vs = [I b, .s y] ∧ b ≤ n ∧ Ext h' h2 ∧ h'.length ≤ r ∧ OwnR r h2 y (setTo (k + 1) b)) (fun vs _ => n - natAt vs 0) ⟨0, _, h'.length, rfl, by omega, Ep, Nat.le_refl _, OwnR.push h' []⟩ ?_
    rintro vs h2 ⟨b, y, r, rfl, hb, E2, hr, O⟩
    have htl := setTo_len (k + 1) b
    have hE2 := E2.1
    have hdl : (k + 1) / 2 ^ b ≤ k + 1 := Nat.div_le_self _ _
    (conv => whnf)
    refine HIf.dec (fun hltb => ?_) (fun hgeb => ?_)
    · (conv => whnf)
      refine HShr.bits (by omega) (by omega) ?_
      (conv => whnf)
      refine HAnd.one (by omega) ?_
      (conv => whnf)
      rw [bit_one]
      cases hbt : bit (k + 1) b
      · rw [← setTo_out hbt] at O
        refine HIf.no ?_
        (conv => whnf)
        refine HArith.fits (by omega) (by omega) ?_
        (conv => whnf)
        exact ⟨⟨b + 1, y, r, rfl, by omega, E2, hr, O⟩, by show n - (b + 1) < n - b; omega⟩
      · refine HIf.yes ?_
        (conv => whnf)
        refine HLit.one ?_
        (conv => whnf)
        refine ⟨rfl, rfl, HApp.snocR O (by omega) (fun h3 r3 y3 B3 hr3 O3 => ?_)⟩
        rw [← setTo_in hbt] at O3
        (conv => whnf)
        refine HArith.fits (by omega) (by omega) ?_
        (conv => whnf)
        exact ⟨⟨b + 1, y3, r3, rfl, by omega, E2.but B3 hr, by omega, O3⟩, by show n - (b + 1) < n - b; omega⟩
    · have e : b = n := by omega
      rw [e, setTo_all n hn (k + 1) (by omega)] at O
      have F := O.own hr
      (conv => whnf)
      refine HLit.row F.one ?_
      (conv => whnf)
      refine ⟨rfl, rfl, HApp.snocM E OM E2 F (by omega) (fun h5 y5 E5 O5 => ?_)⟩
      rw [← setsTo_succ] at O5
      (conv => whnf)
      refine HArith.to (e' := ((k + 1 + 1 : Nat) : Int)) (by omega) (by omega) (by omega) ?_
      (conv => whnf)
      exact ⟨⟨k + 1, y5, rfl, by omega, E5, O5⟩, by show 16 - (k + 1 + 1) < 16 - (k + 1); omega⟩
  · have e : 2 ^ n - 1 = k := by omega
    rw [e]
    (conv => whnf)
    exact ⟨_, rfl, E, OM⟩

theorem spec_l3Set (h : Heap) (x0 : H0) (c : List (List Int)) (x1 : H0) (o : List Int) (hx0 : Rows h x0 c) (hx1 : Ints h x1 o) (hic : isCartan c = true) (ho : ∀ k, k < o.length → 0 ≤ o.getD k 0 ∧ o.getD k 0 < c.length) (hs : ∀ k, k < o.length → k = 0 ∨ o.getD (k - 1) 0 < o.getD k 0) (hol : o.length ≤ 4) :
    HCalls Try.prog 118 [.s x0, .s x1] h (fun r h' => r = B true ∧ h' = h) := by
  have hC := (isCartan_iff c).1 hic
  have h4 := hC.le
  refine calls_of_hFun (m := 0) kd_ok mixed Try.func118 rfl (by kernel_rfl) rfl rfl (of_decide_eq_true rfl) ?_; unfold hFun; (conv => whnf)
  refine HLoop.intro [5] [6, 7, 8, 9, 12, 13, 14, 15, 16, 17, 18, 19, 20, 21, 22, 23, 24, 25, 26, 27, 28, 29, 30, 31, 32, 33, 34, 35, 36, 4, 10, 11, 5] (by kernel_rfl) (by kernel_rfl) (fun vs h' => ∃ k : Nat, vs = [I k] ∧ k ≤ o.length ∧ h' = h) (fun vs _ => o.length - natAt vs 0) ⟨0, rfl, by omega, rfl⟩ ?_
  rintro vs h' ⟨k, rfl, hk, hh⟩
  subst h'
  (conv => whnf)
  refine ⟨rfl, hx1.len ?_⟩
  (conv => whnf)
  refine HIf.dec (fun hlt => ?_) (fun hge => ?_)
  · have hok := ho k (by omega)
    have hsk := hs k (by omega)
    have hpt : isPoint c (o.getD k 0) = true := by simp only [isPoint, inRange, Bool.and_eq_true, decide_eq_true_eq]; omega
    have idx1 : ∀ {K : HV → Prop}, (∀ p, At h p (ci (o.getD k 0)) → K (.s p)) → HIdx h (.s x1) (I k) K := fun hK => Ints.idxN hx1 (by omega) hK
    (conv => whnf)
    refine Or.inl (And.intro (show Region.lexB _ _ = true by kernel_rfl) ?_); (conv => whnf)
    refine ⟨rfl, idx1 (fun p hp => ?_)⟩
    (conv => whnf)
    refine ⟨rfl, hp.load ?_⟩
    (conv => whnf)
    refine ⟨rfl, hx0.len ?_⟩
    (conv => whnf)
    refine HArith.fits (by omega) (by omega) ?_
    (conv => whnf)
    refine HCallQ.of (.bool (decide (0 ≤ o.getD k 0) && decide (o.getD k 0 ≤ (c.length : Int) - 1))) (spec_l1In _ (o.getD k 0) 0 ((c.length : Int) - 1)) (fun x h' hR => hR.1) ?_
    rw [isPoint_l1, hpt]
    (conv => whnf)
    by_cases hk0 : (k : Int) > 0
    · have idx2 : ∀ {K : HV → Prop}, (∀ p, At h p (ci (o.getD (k - 1) 0)) → K (.s p)) → HIdx h (.s x1) (I ((k - 1 : Nat) : Int)) K := fun hK => Ints.idxN hx1 (by omega) hK
      have hng : ¬ (o.getD (k - 1) 0 ≥ o.getD k 0) := by omega
      (repeat (first | (refine HIf.yes ?_; conv => whnf) | (refine HIf.no ?_; conv => whnf) | (refine HIf.decT hk0 ?_; conv => whnf) | (refine HArith.to (e' := ((k - 1 : Nat) : Int)) (by omega) (by omega) (by omega) ?_; conv => whnf) | (refine ⟨rfl, idx2 (fun p hp => ?_)⟩; conv => whnf) | (refine ⟨rfl, idx1 (fun p hp => ?_)⟩; conv => whnf) | (refine ⟨rfl, At.load (by assumption) ?_⟩; conv => whnf)))
      refine HIf.decF hng ?_
      (conv => whnf)
      refine HArith.fits (by omega) (by omega) ?_
      (conv => whnf)
      exact ⟨⟨k + 1, rfl, by omega, rfl⟩, by show o.length - (k + 1) < o.length - k; omega⟩
    · (repeat (first | (refine HIf.yes ?_; conv => whnf) | (refine HIf.no ?_; conv => whnf) | (refine HIf.decF hk0 ?_; conv => whnf)))
      refine HArith.fits (by omega) (by omega) ?_
      (conv => whnf)
      exact ⟨⟨k + 1, rfl, by omega, rfl⟩, by show o.length - (k + 1) < o.length - k; omega⟩
  · (conv => whnf)
    refine (spec_IsCartan _ _ _ hx0 (by omega)).mono ?_
    rintro r h1 ⟨rfl, hh⟩
    subst h1
    rw [hic]
    (conv => whnf)
    exact ⟨rfl, rfl⟩

theorem spec_SubCartan (h : Heap) (x0 : H0) (c : List (List Int)) (x1 : H0) (o : List Int) (hx0 : Rows h x0 c) (hx1 : Ints h x1 o) (hic : isCartan c = true) (ho : ∀ k, k < o.length → 0 ≤ o.getD k 0 ∧ o.getD k 0 < c.length) (hs : ∀ k, k < o.length → k = 0 ∨ o.getD (k - 1) 0 < o.getD k 0) (hol : o.length ≤ 4) (hne : o.length ≠ 0) :
    HCalls Try.prog 94 [.s x0, .s x1] h (fun r h' => ∃ y, r = T2 y true ∧ Ext h h' ∧ OwnM h.length h'.length h' y (pick c o)) := by
  have hC := (isCartan_iff c).1 hic
  have h4 := hC.le
  have E0 := Ext.push h [Row.own []]
  have hx10 := hx1.ext E0
  refine calls_of_hFun (m := 0) kd_ok mixed Try.func94 rfl (by kernel_rfl) rfl rfl (of_decide_eq_true rfl) ?_; unfold hFun; (conv => whnf)
  refine HLit.empty ?_
  (conv => whnf)
  refine (spec_l3Set _ _ c _ o (hx0.ext E0) hx10 hic ho hs hol).mono ?_
  rintro r h1 ⟨rfl, hh⟩
  subst h1
  have hz : ¬ ((o.length : Int) = 0) := by omega
  (conv => whnf)
  (repeat (first | (refine HIf.yes ?_; conv => whnf) | (refine HIf.no ?_; conv => whnf) | (refine ⟨rfl, hx10.len ?_⟩; conv => whnf)))
  refine HIf.beqF hz ?_
  (conv => whnf)
  refine HLoop.intro [7, 6] [21, 22, 23, 24, 27, 8, 9, 28, 29, 30, 31, 34, 35, 36, 37, 38, 39, 40, 41, 42, 43, 44, 45, 46, 47, 48, 49, 8, 32, 33, 9, 50, 51, 52, 53, 6, 25, 26, 7] (by kernel_rfl) (by kernel_rfl) (fun vs h' => ∃ (a : Nat) (z : H0), vs = [I a, .s z] ∧ a ≤ o.length ∧ Ext h h' ∧ OwnM h.length h'.length h' z (pickTo c o a)) (fun vs _ => o.length - natAt vs 0) ⟨0, _, rfl, by omega, Ext.push _ _, OwnM.none h⟩ ?_
  rintro vs h' ⟨a, z, rfl, ha, E, OM⟩
  have hpl := pickTo_len c o a
  have hx1 := hx1.ext E
  (conv => whnf)
  refine ⟨rfl, hx1.len ?_⟩
  (conv => whnf)
  refine HIf.dec (fun hlt => ?_) (fun hge => ?_)
  · have hoa := ho a (by omega)
    obtain ⟨i, hi⟩ : ∃ i : Nat, o.getD a 0 = (i : Int) := ⟨(o.getD a 0).toNat, by omega⟩
    rw [hi] at hoa
    have hir := hC.row i (by omega)
    have Ep := Ext.push h' [Row.own []]
    (conv => whnf)
    refine HLit.empty ?_
    (conv => whnf)
    refine HLoop.intro [9, 8] [28, 29, 30, 31, 34, 35, 36, 37, 38, 39, 40, 41, 42, 43, 44, 45, 46, 47, 48, 49, 8, 32, 33, 9] (by kernel_rfl) (by kernel_rfl) (fun vs h2 => ∃ (b : Nat) (y : H0) (r : Nat), vs = [I b, .s y] ∧ b ≤ o.length ∧ Ext h' h2 ∧ h'.length ≤ r ∧ OwnR r h2 y (pickRow c o i b)) (fun vs _ => o.length - natAt vs 0) ⟨0, _, h'.length, rfl, by omega, Ep, Nat.le_refl _, OwnR.push h' []⟩ ?_
    rintro vs h2 ⟨b, y, r, rfl, hb, E2, hr, O⟩
    have hrl := pickRow_len c o i b
    have hE2 := E2.1
    have hx12 := hx1.ext E2
    (conv => whnf)
    refine ⟨rfl, hx12.len ?_⟩
    (conv => whnf)
    refine HIf.dec (fun hltb => ?_) (fun hgeb => ?_)
    · have hob := ho b (by omega)
      obtain ⟨j, hj⟩ : ∃ j : Nat, o.getD b 0 = (j : Int) := ⟨(o.getD b 0).toNat, by omega⟩
      rw [hj] at hob
      have hx02 := (hx0.ext E).ext E2
      (conv => whnf)
      refine Or.inr (Or.inr (Or.inl (Exists.intro 15 (Exists.intro [0, 1, 2, 3, 4, 5, 6, 7, 8, 9, 10, 11, 12, 13] (Exists.intro [14, 15, 16] (And.intro (show heldOk _ _ _ _ = true by kernel_rfl) ?_)))))); (conv => whnf)
      refine ⟨rfl, Ints.idxN hx12 (by omega) (fun p hp => ?_)⟩
      rw [hi] at hp
      (conv => whnf)
      refine ⟨rfl, hp.load ?_⟩
      (conv => whnf)
      refine ⟨rfl, Rows.idxN hx02 (by omega) (fun p3 y3 hp3 hy3 => ?_)⟩
      (conv => whnf)
      refine ⟨rfl, hp3.load ?_⟩
      (conv => whnf)
      refine ⟨rfl, Ints.idxN hx12 (by omega) (fun p2 hp2 => ?_)⟩
      rw [hj] at hp2
      (conv => whnf)
      refine ⟨rfl, hp2.load ?_⟩
      (conv => whnf)
      refine ⟨rfl, Ints.idxN hy3 (by omega) (fun p4 hp4 => ?_)⟩
      (conv => whnf)
      refine ⟨rfl, hp4.load ?_⟩
      rw [ent_eq]
      (conv => whnf)
      refine HLit.one ?_
      (conv => whnf)
      refine ⟨rfl, rfl, HApp.snocR O (by omega) (fun h3 r3 y5 B3 hr3 O3 => ?_)⟩
      have es : pickRow c o i (b + 1) = pickRow c o i b ++ [ent c i j] := by rw [pickRow_succ, hj]; rfl
      rw [← es] at O3
      (conv => whnf)
      refine HArith.fits (by omega) (by omega) ?_
      (conv => whnf)
      exact ⟨⟨b + 1, y5, r3, rfl, by omega, E2.but B3 hr, by omega, O3⟩, by show o.length - (b + 1) < o.length - b; omega⟩
    · have e : b = o.length := by omega
      subst e
      have er : pickTo c o (a + 1) = pickTo c o a ++ [pickRow c o i o.length] := by rw [pickTo_succ, hi]; rfl
      have F := O.own hr
      (conv => whnf)
      refine HLit.row F.one ?_
      (conv => whnf)
      refine ⟨rfl, rfl, HApp.snocM E OM E2 F (by omega) (fun h5 y5 E5 O5 => ?_)⟩
      rw [← er] at O5
      (conv => whnf)
      refine HArith.fits (by omega) (by omega) ?_
      (conv => whnf)
      exact ⟨⟨a + 1, y5, rfl, by omega, E5, O5⟩, by show o.length - (a + 1) < o.length - a; omega⟩
  · have e : a = o.length := by omega
    subst e
    (conv => whnf)
    exact ⟨_, rfl, E, OM⟩

theorem spec_WitnessOf (h : Heap) (x : H0) (c : List (List Int)) (hx : Rows h x c) (hic : isCartan c = true) :
    HCalls Try.prog 75 [.s x] h (fun r h' => ∃ (y : H0) (l : List Int), r = .s y ∧ Ext h h' ∧ Ints h' y l ∧ (l.length = 0 ↔ allPos c = true)) := by
  have hC := (isCartan_iff c).1 hic
  have h4 := hC.le
  have h16 := pow_le16 (n := c.length) (by omega)
  refine calls_of_hFun (m := 0) kd_ok mixed Try.func75 rfl (by kernel_rfl) rfl rfl (of_decide_eq_true rfl) ?_; unfold hFun; (conv => whnf)
  refine (spec_IsCartan _ _ _ hx (by omega)).mono ?_
  rintro r h1 ⟨rfl, hh⟩
  subst h1
  rw [hic]
  (conv => whnf)
  refine HIf.no ?_
  (conv => whnf)
  refine ⟨rfl, hx.len ?_⟩
  (conv => whnf)
  refine (spec_l4Sets _ c.length (by omega)).mono ?_
  rintro r h1 ⟨y1, rfl, E1, OM⟩
  have hsl := setsTo_len (2 ^ c.length - 1)
  (conv => whnf)
  refine HLoop.intro [4] [14, 15, 16, 17, 21, 22, 23, 24, 25, 26, 20, 27, 28, 5, 6, 29, 30, 31, 32, 33, 34, 35, 2, 18, 19, 4] (by kernel_rfl) (by kernel_rfl) (fun vs h' => ∃ k : Nat, vs = [I k] ∧ k ≤ 2 ^ c.length - 1 ∧ Ext h1 h' ∧ ∀ t, t < k → 0 < dt c (t + 1)) (fun vs _ => 16 - natAt vs 0) ⟨0, rfl, by omega, Ext.refl _, fun t ht => by omega⟩ ?_
  rintro vs h' ⟨k, rfl, hk, E2, hb⟩
  have R := (OM.ext E2).rows
  have E := E1.trans E2
  (conv => whnf)
  refine ⟨rfl, R.len ?_⟩
  rw [hsl]
  (conv => whnf)
  refine HIf.dec (fun hlt => ?_) (fun hge => ?_)
  · have hg := setsTo_get (k := k) (n := 2 ^ c.length - 1) (by omega)
    obtain ⟨f1, f2, f3⟩ := setB_fits c.length (by omega) (k + 1) (by omega) (by omega)
    have hs4 := set_len4 (k + 1)
    (conv => whnf)
    refine ⟨rfl, Rows.idxN R (by omega) (fun p z hp hz => ?_)⟩
    rw [hg] at hz
    (conv => whnf)
    refine ⟨rfl, hp.load ?_⟩
    (conv => whnf)
    refine (spec_SubCartan _ _ c _ _ (hx.ext E) hz hic f2 f3 hs4 f1).mono ?_
    rintro v h3 ⟨y3, rfl, E3, O3⟩
    (conv => whnf)
    refine (spec_l4Det _ hs4 _ _ _ O3.rows (pick_sq hC f2)).mono ?_
    rintro v h5 ⟨rfl, E5⟩
    have E35 := E3.trans E5
    have R5 := R.ext E35
    have ed : detZ (setB (k + 1)).length (pick c (setB (k + 1))) = dt c (k + 1) := rfl
    rw [ed]
    (conv => whnf)
    refine HIf.dec (fun hle => ?_) (fun hpos => ?_)
    · have hap := allPos_not (c := c) (k := k) (by omega) hle
      (conv => whnf)
      refine ⟨rfl, Rows.idxN R5 (by omega) (fun p7 z7 hp7 hz7 => ?_)⟩
      rw [hg] at hz7
      (conv => whnf)
      refine ⟨rfl, hp7.load ?_⟩
      (conv => whnf)
      exact ⟨_, _, rfl, E.trans E35, hz7, ⟨fun h => absurd h f1, fun h => by rw [hap] at h; cases h⟩⟩
    · (conv => whnf)
      refine HArith.fits (by omega) (by omega) ?_
      (conv => whnf)
      refine ⟨⟨k + 1, rfl, by omega, E2.trans E35, fun t ht => ?_⟩, by show 16 - (k + 1) < 16 - k; omega⟩
      by_cases e : t = k
      · subst e; omega
      · exact hb t (by omega)
  · have hap := allPos_of (c := c) (fun t ht => hb t (by omega))
    (conv => whnf)
    refine HLit.empty ?_
    (conv => whnf)
    exact ⟨_, [], rfl, E.trans (Ext.push _ _), (OwnR.push _ []).ints, ⟨fun _ => hap, fun _ => rfl⟩⟩

theorem spec_IsFinite (h : Heap) (x : H0) (c : List (List Int)) (hx : Rows h x c) (hcl : c.length ≤ 1048576) :
    HCalls Try.prog 48 [.s x] h (fun r h' => r = B (isFinite c) ∧ Ext h h') := by
  refine calls_of_hFun (m := 0) kd_ok mixed Try.func48 rfl (by kernel_rfl) rfl rfl (of_decide_eq_true rfl) ?_; unfold hFun; (conv => whnf)
  refine (spec_IsCartan _ _ _ hx (by omega)).mono ?_
  rintro r h1 ⟨rfl, hh⟩
  subst h1
  (conv => whnf)
  cases hic : isCartan c
  · (repeat (first | (refine HIf.no ?_; conv => whnf)))
    exact ⟨bEq (isFinite_off hic), Ext.refl _⟩
  refine HIf.yes ?_
  (conv => whnf)
  refine HIf.yes ?_
  (conv => whnf)
  refine (spec_WitnessOf _ _ c hx hic).mono ?_
  rintro r h1 ⟨y, l, rfl, E, hl, hiff⟩
  have hfin := isFinite_on hic hiff
  (conv => whnf)
  (repeat (first | (refine HIf.yes ?_; conv => whnf) | (refine ⟨rfl, hl.len ?_⟩; conv => whnf)))
  exact ⟨bEq hfin.symm, E⟩

end Go.Proofs.Ytnooeaemjnmkdaa.Hx

namespace Go.Proofs.Ytnooeaemjnmkdaa.Hx
open Go.RowKit

noncomputable def posRoots (c : List (List Int)) : List (List Int) := if isFinite c = true then rootsUp c 12 else []

theorem posRoots_off {c : List (List Int)} (h : isFinite c = false) : posRoots c = [] := by simp [posRoots, h]
theorem posRoots_on {c : List (List Int)} (h : isFinite c = true) : posRoots c = rootsUp c 12 := by simp [posRoots, h]

theorem isFinite_cartan {c : List (List Int)} (h : isFinite c = true) : isCartan c = true := by
  cases hc : isCartan c
  · rw [isFinite_off hc] at h
    cases h
  · rfl

theorem rootsUp_small (c : List (List Int)) (H : Int) : (rootsUp c H).length ≤ 28561 ∧ tot (rootsUp c H) ≤ 114244 := by
  by_cases h : isCartan c = true ∧ 1 ≤ H ∧ H ≤ 12
  · unfold rootsUp
    rw [if_pos h]
    split
    · rename_i hx
      have := (Classical.choose_spec hx).size ((isCartan_iff c).1 h.1) h.2.2 h.2.1
      omega
    · simp [tot]
  · rw [rootsUp_off h]
    simp [tot]

theorem posRoots_small (c : List (List Int)) : (posRoots c).length ≤ 28561 ∧ tot (posRoots c) ≤ 114244 := by
  cases h : isFinite c
  · rw [posRoots_off h]
    simp [tot]
  · rw [posRoots_on h]
    exact rootsUp_small c 12

theorem posRoots_size (c : List (List Int)) : (posRoots c).length ≤ 1099511627776 ∧ tot (posRoots c) ≤ 1099511627776 := by
  have := posRoots_small c
  omega

def addTo (a b : List Int) (k : Nat) : List Int := (List.range k).map fun i => IntKind.i64.wrap (a.getD i 0 + b.getD i 0)
def addW (a b : List Int) : List Int := addTo a b (min a.length b.length)
theorem addTo_succ (a b : List Int) (k : Nat) : addTo a b (k + 1) = addTo a b k ++ [IntKind.i64.wrap (a.getD k 0 + b.getD k 0)] := by
  unfold addTo
  rw [List.range_succ, List.map_append]
  rfl
theorem addTo_len (a b : List Int) (k : Nat) : (addTo a b k).length = k := by simp [addTo]
theorem addW_len (a b : List Int) : (addW a b).length ≤ a.length := by
  rw [addW, addTo_len]
  exact Nat.min_le_left _ _

def ClosedP (c L : List (List Int)) : Prop :=
  isFinite c = true ∧ (∀ i, i < L.length → L.getD i [] ∈ posRoots c) ∧ ∀ i, i < L.length → ∀ k, k < i → addW (L.getD i []) (L.getD k []) ∈ posRoots c → addW (L.getD i []) (L.getD k []) ∈ L
open Classical in
noncomputable def isClosed (c L : List (List Int)) : Bool := decide (ClosedP c L)
open Classical in
theorem isClosed_on {c L : List (List Int)} (h : ClosedP c L) : isClosed c L = true := by
  unfold isClosed
  exact decide_eq_true h
open Classical in
theorem isClosed_off {c L : List (List Int)} (h : ¬ ClosedP c L) : isClosed c L = false := by
  unfold isClosed
  exact decide_eq_false h

theorem OwnM.down {b c e : Nat} {h : Heap} {x : H0} {L : List (List Int)} (H : OwnM b e h x L) (k : c ≤ b) : OwnM c e h x L := by
  obtain ⟨r, ρ, g1, g2, g3, g4, m⟩ := H
  exact ⟨r, ρ, g1, by omega, g3, fun i hi => by have := g4 i hi; omega, m⟩

theorem Rows.tkk {h : Heap} {r off len u : Nat} {L : List (List Int)} (H : Rows h (.sl r off len) L) (hl : u ≤ len) : Rows h (.sl r off u) (L.take u) := by
  obtain ⟨xs, h1, h2, h3⟩ := H
  have part : ∀ y, Shows h (.s y) (xs.take u) → Rows h y (L.take u) := fun y hy => ⟨xs.take u, hy, by simp [h2], fun i z l a b => by
    rw [List.getElem?_take] at a b
    split at a
    · rw [if_pos (by assumption)] at b
      exact h3 i z l a b
    · cases a⟩
  generalize hxs : xs = X at h1 part h2
  cases h1 with
  | ro _ _ _ cs hr hl2 =>
    refine part _ ?_
    have := Shows.ro (h := h) r off u cs hr (by omega)
    rw [List.take_take, Nat.min_eq_left hl]
    exact this
  | own _ _ _ cs hr hl2 =>
    refine part _ ?_
    have := Shows.own (h := h) r off u cs hr (by omega)
    rw [List.take_take, Nat.min_eq_left hl]
    exact this

/-- The first entries of a slice of slices. -/
theorem Rows.tk {h : Heap} {x : H0} {L : List (List Int)} (H : Rows h x L) (u : Nat) (hL : u ≤ L.length) {K : HV → Prop} (hK : ∀ y, Rows h y (L.take u) → K (.s y)) : HSlice h (.s x) none (some (I u)) K := by
  have H0 := H
  obtain ⟨xs, h1, h2, h3⟩ := H
  generalize hxs : xs = X at h1 h2
  cases h1 with
  | nils b c =>
    have e : u = 0 := by simp at h2; omega
    subst e
    refine ⟨0, 0, 0, rfl, Or.inl ⟨rfl, rfl⟩, Or.inr ⟨.i64, rfl⟩, Nat.le_refl _, Or.inl (Nat.le_refl _), hK _ ?_⟩
    have : L = [] := by cases L; rfl; simp at h2
    subst this
    exact H0
  | ro r off len cs hr hl =>
    have e : len = L.length := by simp at h2; omega
    exact ⟨len, 0, u, rfl, Or.inl ⟨rfl, rfl⟩, Or.inr ⟨.i64, rfl⟩, Nat.zero_le _, Or.inl (by omega), hK _ (H0.tkk (by omega))⟩
  | own r off len cs hr hl =>
    have e : len = L.length := by simp at h2; omega
    exact ⟨len, 0, u, rfl, Or.inl ⟨rfl, rfl⟩, Or.inr ⟨.i64, rfl⟩, Nat.zero_le _, Or.inl (by omega), hK _ (H0.tkk (by omega))⟩

set_option smartUnfolding false

theorem impl_PositiveRoots (h : Heap) (x0 : H0) (a0 : List (List Int)) (hx0 : Rows h x0 a0) (s0 : a0.length ≤ 1048576 ∧ tot a0 ≤ 1048576) :
    HCalls Try.prog 22 [.s x0] h (fun r h' => ∃ y, r = T2 y (isFinite a0) ∧ Ext h h' ∧ OwnM h.length h'.length h' y (posRoots a0)) := by
  refine calls_of_hFun (m := 0) kd_ok mixed Try.func22 rfl (by kernel_rfl) rfl rfl (of_decide_eq_true rfl) ?_; unfold hFun; (conv => whnf)
  refine (impl_IsFinite _ _ a0 hx0 (by omega)).mono ?_
  rintro r h1 ⟨rfl, E⟩
  (conv => whnf)
  cases hf : isFinite a0
  · (repeat (first | (refine HIf.yes ?_; conv => whnf) | (refine HIf.no ?_; conv => whnf)))
    refine HLit.empty ?_
    (conv => whnf)
    rw [posRoots_off hf]
    exact ⟨_, rfl, E.trans (Ext.push _ _), (OwnM.none h1).down E.1⟩
  (repeat (first | (refine HIf.yes ?_; conv => whnf) | (refine HIf.no ?_; conv => whnf)))
  refine (impl_RootsUpTo _ _ a0 12 (hx0.ext E) s0 (by omega)).mono ?_
  rintro r h2 ⟨y, rfl, E2, O⟩
  (conv => whnf)
  rw [posRoots_on hf]
  exact ⟨_, rfl, E.trans E2, O.down E.1⟩

theorem spec_PositiveRoots (h : Heap) (x0 : H0) (a0 : List (List Int)) (hx0 : Rows h x0 a0) (s0 : a0.length ≤ 1048576 ∧ tot a0 ≤ 1048576) :
    HCalls Try.prog 21 [.s x0] h (fun r h' => ∃ y, r = T2 y (isFinite a0) ∧ Ext h h' ∧ OwnM h.length h'.length h' y (posRoots a0)) := by
  refine calls_of_hFun (m := 0) kd_ok mixed Try.func21 rfl (by kernel_rfl) rfl rfl (of_decide_eq_true rfl) ?_; unfold hFun; (conv => whnf)
  refine (spec_IsFinite _ _ a0 hx0 (by omega)).mono ?_
  rintro r h1 ⟨rfl, E⟩
  (conv => whnf)
  cases hf : isFinite a0
  · (repeat (first | (refine HIf.yes ?_; conv => whnf) | (refine HIf.no ?_; conv => whnf)))
    refine HLit.empty ?_
    (conv => whnf)
    rw [posRoots_off hf]
    exact ⟨_, rfl, E.trans (Ext.push _ _), (OwnM.none h1).down E.1⟩
  (repeat (first | (refine HIf.yes ?_; conv => whnf) | (refine HIf.no ?_; conv => whnf)))
  refine (spec_RootsUpTo _ _ a0 12 (hx0.ext E) s0 (by omega)).mono ?_
  rintro r h2 ⟨y, rfl, E2, O⟩
  (conv => whnf)
  rw [posRoots_on hf]
  exact ⟨_, rfl, E.trans E2, O.down E.1⟩

theorem impl_AddWeights (h : Heap) (x0 : H0) (a0 : List Int) (x1 : H0) (a1 : List Int) (hx0 : Ints h x0 a0) (hx1 : Ints h x1 a1) (s0 : a0.length ≤ 1048576) (_s1 : a1.length ≤ 1048576) :
    HCalls Try.prog 54 [.s x0, .s x1] h (fun r h' => ∃ y, r = .s y ∧ Fresh h h' y (addW a0 a1)) := by
  refine calls_of_hFun (m := 0) kd_ok mixed Try.func54 rfl (by kernel_rfl) rfl rfl (of_decide_eq_true rfl) ?_; unfold hFun; (conv => whnf)
  have E0 := Ext.push h [Row.own []]
  refine HLit.empty ?_
  (conv => whnf)
  refine ⟨rfl, (hx0.ext E0).len ?_⟩
  (conv => whnf)
  refine ⟨rfl, (hx1.ext E0).len ?_⟩
  (conv => whnf)
  refine ⟨.i64, _, _, rfl, rfl, ?_⟩
  have em : (if (a1.length : Int) < (a0.length : Int) then (a1.length : Int) else (a0.length : Int)) = ((min a0.length a1.length : Nat) : Int) := by split <;> omega
  rw [em]
  clear em
  have hm1 := Nat.min_le_left a0.length a1.length
  have hm2 := Nat.min_le_right a0.length a1.length
  have hav : addW a0 a1 = addTo a0 a1 (min a0.length a1.length) := rfl
  rw [hav]
  clear hav
  generalize min a0.length a1.length = m at *
  (conv => whnf)
  refine HLoop.intro [13, 5] [14, 15, 6, 16, 17, 18, 19, 20, 21, 22, 23, 24, 25, 26, 27, 5, 28, 13] (by kernel_rfl) (by kernel_rfl) (fun vs h' => ∃ (k : Nat) (z : H0), vs = [I k, .s z] ∧ k ≤ m ∧ Ext h h' ∧ Own h.length h'.length h' z (addTo a0 a1 k)) (fun vs _ => m - natAt vs 0) ⟨0, _, rfl, by omega, E0, Own.none h⟩ ?_
  clear E0
  rintro vs h' ⟨k, z, rfl, hk, E, O⟩
  (conv => whnf)
  refine HIf.dec (fun hlt => ?_) (fun hge => ?_)
  · (conv => whnf)
    refine Or.inr (Or.inr (Or.inl (Exists.intro 11 (Exists.intro [0, 1, 2, 3, 4, 5, 6, 7, 8, 9] (Exists.intro [10, 11, 12] (And.intro (show heldOk _ _ _ _ = true by kernel_rfl) ?_)))))); (conv => whnf)
    refine ⟨rfl, (hx0.ext E).idxN (by omega) (fun p hp => ?_)⟩
    (conv => whnf)
    refine ⟨rfl, hp.load ?_⟩
    (conv => whnf)
    refine ⟨rfl, (hx1.ext E).idxN (by omega) (fun p2 hp2 => ?_)⟩
    (conv => whnf)
    refine ⟨rfl, hp2.load ?_⟩
    (conv => whnf)
    refine HArith.any ?_
    (conv => whnf)
    refine HLit.one ?_
    (conv => whnf)
    refine ⟨rfl, rfl, HApp.snoc E O (by rw [addTo_len]; omega) (fun h4 y4 E4 O4 => ?_)⟩
    rw [← addTo_succ] at O4
    (conv => whnf)
    refine HArith.fits (by omega) (by omega) ?_
    (conv => whnf)
    exact ⟨⟨k + 1, y4, rfl, by omega, E4, O4⟩, by show m - (k + 1) < m - k; omega⟩
  · have e : k = m := by omega
    subst e
    (conv => whnf)
    exact ⟨_, rfl, Fresh.of E O⟩

theorem spec_AddWeights (h : Heap) (x0 : H0) (a0 : List Int) (x1 : H0) (a1 : List Int) (hx0 : Ints h x0 a0) (hx1 : Ints h x1 a1) (s0 : a0.length ≤ 1048576) (_s1 : a1.length ≤ 1048576) :
    HCalls Try.prog 52 [.s x0, .s x1] h (fun r h' => ∃ y, r = .s y ∧ Fresh h h' y (addW a0 a1)) := by
  refine calls_of_hFun (m := 0) kd_ok mixed Try.func52 rfl (by kernel_rfl) rfl rfl (of_decide_eq_true rfl) ?_; unfold hFun; (conv => whnf)
  have E0 := Ext.push h [Row.own []]
  refine HLit.empty ?_
  have hm1 := Nat.min_le_left a0.length a1.length
  have hm2 := Nat.min_le_right a0.length a1.length
  have hm3 : ∀ k : Nat, k < a0.length → k < a1.length → k < min a0.length a1.length := fun k _ _ => by omega
  have hav : addW a0 a1 = addTo a0 a1 (min a0.length a1.length) := rfl
  rw [hav]
  clear hav
  generalize min a0.length a1.length = m at *
  (conv => whnf)
  refine HLoop.intro [6, 5] [8, 9, 10, 11, 12, 13, 14, 15, 16, 17, 20, 21, 22, 23, 24, 25, 26, 27, 28, 29, 30, 31, 5, 18, 19, 6] (by kernel_rfl) (by kernel_rfl) (fun vs h' => ∃ (k : Nat) (z : H0), vs = [I k, .s z] ∧ k ≤ m ∧ Ext h h' ∧ Own h.length h'.length h' z (addTo a0 a1 k)) (fun vs _ => m - natAt vs 0) ⟨0, _, rfl, by omega, E0, Own.none h⟩ ?_
  clear E0
  rintro vs h' ⟨k, z, rfl, hk, E, O⟩
  (conv => whnf)
  have fin : ∀ (_ : ¬ (k < a0.length ∧ k < a1.length)), ∃ y, HV.s z = .s y ∧ Fresh h h' y (addTo a0 a1 m) := fun hn => by
    have e : k = m := by
      by_cases k1 : k < m
      · omega
      · omega
    subst e
    exact ⟨_, rfl, Fresh.of E O⟩
  refine ⟨rfl, (hx0.ext E).len ?_⟩
  (conv => whnf)
  by_cases hlt : (k : Int) < (a0.length : Int)
  rotate_left
  · (repeat (first | (refine HIf.decF hlt ?_; (conv => whnf)) | (refine HIf.no ?_; (conv => whnf))))
    exact fin (by omega)
  (repeat (refine HIf.decT hlt ?_; (conv => whnf)))
  refine ⟨rfl, (hx1.ext E).len ?_⟩
  (conv => whnf)
  (repeat (refine HIf.decT hlt ?_; (conv => whnf)))
  by_cases hlt2 : (k : Int) < (a1.length : Int)
  rotate_left
  · (repeat (first | (refine HIf.decT hlt ?_; (conv => whnf)) | (refine HIf.decF hlt2 ?_; (conv => whnf)) | (refine HIf.no ?_; (conv => whnf))))
    exact fin (by omega)
  (repeat (first | (refine HIf.decT hlt ?_; (conv => whnf)) | (refine HIf.decT hlt2 ?_; (conv => whnf))))
  have := hm3 k (by omega) (by omega)
  refine Or.inr (Or.inr (Or.inl (Exists.intro 11 (Exists.intro [0, 1, 2, 3, 4, 5, 6, 7, 8, 9] (Exists.intro [10, 11, 12] (And.intro (show heldOk _ _ _ _ = true by kernel_rfl) ?_)))))); (conv => whnf)
  refine ⟨rfl, (hx0.ext E).idxN (by omega) (fun p hp => ?_)⟩
  (conv => whnf)
  refine ⟨rfl, hp.load ?_⟩
  (conv => whnf)
  refine ⟨rfl, (hx1.ext E).idxN (by omega) (fun p2 hp2 => ?_)⟩
  (conv => whnf)
  refine ⟨rfl, hp2.load ?_⟩
  (conv => whnf)
  refine HArith.any ?_
  (conv => whnf)
  refine HLit.one ?_
  (conv => whnf)
  refine ⟨rfl, rfl, HApp.snoc E O (by rw [addTo_len]; omega) (fun h4 y4 E4 O4 => ?_)⟩
  rw [← addTo_succ] at O4
  (conv => whnf)
  refine HArith.fits (by omega) (by omega) ?_
  (conv => whnf)
  exact ⟨⟨k + 1, y4, rfl, by omega, E4, O4⟩, by show m - (k + 1) < m - k; omega⟩

end Go.Proofs.Ytnooeaemjnmkdaa.Hx

namespace Go.Proofs.Ytnooeaemjnmkdaa.Hx
open Go.RowKit

set_option smartUnfolding false

theorem impl_IsClosedSet (h : Heap) (x0 : H0) (a0 : List (List Int)) (x1 : H0) (a1 : List (List Int)) (hx0 : Rows h x0 a0) (hx1 : Rows h x1 a1) (s0 : a0.length ≤ 1048576 ∧ tot a0 ≤ 1048576) (s1 : a1.length ≤ 1048576 ∧ tot a1 ≤ 1048576) :
    HCalls Try.prog 26 [.s x0, .s x1] h (fun r h' => r = B (isClosed a0 a1) ∧ Ext h h') := by
  refine calls_of_hFun (m := 0) kd_ok mixed Try.func26 rfl (by kernel_rfl) rfl rfl (of_decide_eq_true rfl) ?_; unfold hFun; (conv => whnf)
  refine (impl_PositiveRoots _ _ a0 hx0 s0).mono ?_
  rintro r h1 ⟨y, rfl, E1, O1⟩
  have hps := posRoots_small a0
  (conv => whnf)
  cases hf : isFinite a0
  · (repeat (first | (refine HIf.yes ?_; conv => whnf) | (refine HIf.no ?_; conv => whnf)))
    exact ⟨bEq (isClosed_off fun k => by have := k.1; rw [hf] at this; cases this), E1⟩
  (repeat (first | (refine HIf.yes ?_; conv => whnf) | (refine HIf.no ?_; conv => whnf)))
  refine ⟨rfl, (hx1.ext E1).len ?_⟩
  (conv => whnf)
  refine HLoop.intro [23] [24, 25, 26, 8, 27, 28, 29, 30, 4, 31, 23] (by kernel_rfl) (by kernel_rfl) (fun vs h' => ∃ i : Nat, vs = [I i] ∧ i ≤ a1.length ∧ Ext h h' ∧ OwnM h.length h1.length h' y (posRoots a0) ∧ h1.length ≤ h'.length ∧ ∀ j, j < i → a1.getD j [] ∈ posRoots a0) (fun vs _ => a1.length - natAt vs 0) ⟨0, rfl, by omega, E1, O1, Nat.le_refl _, fun j hj => by omega⟩ ?_
  generalize h1.length = N at *
  clear E1 O1
  rintro vs h' ⟨i, rfl, hi, E, O, hN, hin⟩
  (conv => whnf)
  refine HIf.dec (fun hlt => ?_) (fun hge => ?_)
  · (conv => whnf)
    have hle := len_le_tot (L := a1) (i := i) (by omega)
    refine ⟨rfl, (hx1.ext E).idxN (by omega) (fun p z hp hz => ?_)⟩
    (conv => whnf)
    refine ⟨rfl, hp.load ?_⟩
    (conv => whnf)
    refine (impl_hasRoot _ _ (posRoots a0) _ _ O.rows hz (by omega) (by omega)).mono ?_
    rintro v h2 ⟨rfl, E2⟩
    (conv => whnf)
    by_cases hm : a1.getD i [] ∈ posRoots a0
    rotate_left
    · refine HIf.bnot (HIf.decF hm ?_)
      (conv => whnf)
      exact ⟨bEq (isClosed_off fun k => hm (k.2.1 i (by omega))), E.trans E2⟩
    refine HIf.bnot (HIf.decT hm ?_)
    (conv => whnf)
    refine HArith.fits (by omega) (by omega) ?_
    (conv => whnf)
    have := E2.1
    exact ⟨⟨i + 1, rfl, by omega, E.trans E2, O.ext E2, by omega, fun j hj => by
      by_cases e : j = i
      · subst e; exact hm
      · exact hin j (by omega)⟩, by show a1.length - (i + 1) < a1.length - i; omega⟩
  have ei : i = a1.length := by omega
  subst ei
  (conv => whnf)
  refine ⟨rfl, (hx1.ext E).len ?_⟩
  (conv => whnf)
  refine HLoop.intro [34] [35, 36, 37, 38, 9, 10, 39, 40, 41, 42, 43, 44, 45, 46, 12, 47, 48, 49, 13, 50, 51, 52, 53, 54, 55, 56, 57, 58, 4, 59, 43, 60, 34] (by kernel_rfl) (by kernel_rfl) (fun vs h' => ∃ i : Nat, vs = [I i] ∧ i ≤ a1.length ∧ Ext h h' ∧ OwnM h.length N h' y (posRoots a0) ∧ N ≤ h'.length ∧ ∀ j, j < i → ∀ k, k < j → addW (a1.getD j []) (a1.getD k []) ∈ posRoots a0 → addW (a1.getD j []) (a1.getD k []) ∈ a1) (fun vs _ => a1.length - natAt vs 0) ⟨0, rfl, by omega, E, O, hN, fun j hj => by omega⟩ ?_
  clear E O hN
  rintro vs h' ⟨i, rfl, hi, E, O, hN, hcl⟩
  (conv => whnf)
  refine HIf.dec (fun hlt => ?_) (fun hge => ?_)
  rotate_left
  · have ei : i = a1.length := by omega
    subst ei
    (conv => whnf)
    exact ⟨bEq (isClosed_on ⟨hf, hin, hcl⟩), E⟩
  have hle := len_le_tot (L := a1) (i := i) (by omega)
  (conv => whnf)
  refine ⟨rfl, (hx1.ext E).idxN (by omega) (fun p z hp hz => ?_)⟩
  (conv => whnf)
  refine ⟨rfl, hp.load ?_⟩
  (conv => whnf)
  refine ⟨rfl, (hx1.ext E).tk i (by omega) (fun ys hys => ?_)⟩
  (conv => whnf)
  refine ⟨rfl, hys.len ?_⟩
  have etl : (a1.take i).length = i := by rw [List.length_take]; omega
  rw [etl]
  (conv => whnf)
  refine HLoop.intro [43] [44, 45, 46, 12, 47, 48, 49, 13, 50, 51, 52, 53, 54, 55, 56, 57, 58, 4, 59, 43] (by kernel_rfl) (by kernel_rfl) (fun vs h2 => ∃ k : Nat, vs = [I k] ∧ k ≤ i ∧ Ext h' h2 ∧ OwnM h.length N h2 y (posRoots a0) ∧ N ≤ h2.length ∧ ∀ j, j < k → addW (a1.getD i []) (a1.getD j []) ∈ posRoots a0 → addW (a1.getD i []) (a1.getD j []) ∈ a1) (fun vs _ => i - natAt vs 0) ⟨0, rfl, by omega, Ext.refl _, O, hN, fun j hj => by omega⟩ ?_
  clear O hN
  rintro vs h2 ⟨k, rfl, hk, E2, O, hN, hck⟩
  have E3 := E.trans E2
  (conv => whnf)
  refine HIf.dec (fun hlt2 => ?_) (fun hge2 => ?_)
  · (conv => whnf)
    have hle2 := len_le_tot (L := a1) (i := k) (by omega)
    refine ⟨rfl, (hys.ext E2).idxN (by omega) (fun p2 z2 hp2 hz2 => ?_)⟩
    rw [getD_take (show k < i by omega)] at hz2
    (conv => whnf)
    refine ⟨rfl, hp2.load ?_⟩
    (conv => whnf)
    refine (impl_AddWeights _ _ _ _ _ (hz.ext E2) hz2 (by omega) (by omega)).mono ?_
    rintro v h4 ⟨z4, rfl, f4⟩
    have hal := addW_len (a1.getD i []) (a1.getD k [])
    (conv => whnf)
    generalize hS : addW (a1.getD i []) (a1.getD k []) = S at *
    refine (impl_hasRoot _ _ (posRoots a0) _ S (O.ext f4.1).rows f4.ints (by omega) (by omega)).mono ?_
    rintro v h5 ⟨rfl, E5⟩
    have E6 := f4.1.trans E5
    have := E6.1
    have next : ∀ h6, Ext h2 h6 → (S ∈ posRoots a0 → S ∈ a1) → (∃ k_1 : Nat, [I ((k : Int) + 1)] = [I k_1] ∧ k_1 ≤ i ∧ Ext h' h6 ∧ OwnM h.length N h6 y (posRoots a0) ∧ N ≤ h6.length ∧ ∀ j, j < k_1 → addW (a1.getD i []) (a1.getD j []) ∈ posRoots a0 → addW (a1.getD i []) (a1.getD j []) ∈ a1) := fun h6 F hs => by
      have := F.1
      exact ⟨k + 1, rfl, by omega, E2.trans F, O.ext F, by omega, fun j hj => by
        by_cases e : j = k
        · subst e; rw [hS]; exact hs
        · exact hck j (by omega)⟩
    (conv => whnf)
    by_cases hm : S ∈ posRoots a0
    rotate_left
    · (repeat (first | (refine HIf.decF hm ?_; conv => whnf) | (refine HIf.no ?_; conv => whnf)))
      refine HArith.fits (by omega) (by omega) ?_
      (conv => whnf)
      exact ⟨next _ E6 (fun q => absurd q hm), by show i - (k + 1) < i - k; omega⟩
    (repeat (first | (refine HIf.decT hm ?_; conv => whnf)))
    refine (impl_hasRoot _ _ a1 _ S ((hx1.ext E3).ext E6) (f4.ints.ext E5) (by omega) (by omega)).mono ?_
    rintro v h7 ⟨rfl, E7⟩
    (conv => whnf)
    (repeat (first | (refine HIf.decT hm ?_; conv => whnf)))
    by_cases hm2 : S ∈ a1
    rotate_left
    · (repeat (first | (refine HIf.bnot (HIf.decF hm2 ?_); conv => whnf) | (refine HIf.no ?_; conv => whnf) | (refine HIf.decT hm ?_; conv => whnf)))
      exact ⟨bEq (isClosed_off fun q => hm2 (by have := q.2.2 i (by omega) k (by omega); rw [hS] at this; exact this hm)), (E3.trans E6).trans E7⟩
    (repeat (first | (refine HIf.bnot (HIf.decT hm2 ?_); conv => whnf) | (refine HIf.yes ?_; conv => whnf) | (refine HIf.decT hm ?_; conv => whnf)))
    refine HArith.fits (by omega) (by omega) ?_
    (conv => whnf)
    exact ⟨next _ (E6.trans E7) (fun _ => hm2), by show i - (k + 1) < i - k; omega⟩
  · have ek : k = i := by omega
    subst ek
    (conv => whnf)
    refine HArith.fits (by omega) (by omega) ?_
    (conv => whnf)
    exact ⟨⟨k + 1, rfl, by omega, E3, O, hN, fun j hj => by
      by_cases e : j = k
      · subst e; exact hck
      · exact hcl j (by omega)⟩, by show a1.length - (k + 1) < a1.length - k; omega⟩

theorem spec_IsClosedSet (h : Heap) (x0 : H0) (a0 : List (List Int)) (x1 : H0) (a1 : List (List Int)) (hx0 : Rows h x0 a0) (hx1 : Rows h x1 a1) (s0 : a0.length ≤ 1048576 ∧ tot a0 ≤ 1048576) (s1 : a1.length ≤ 1048576 ∧ tot a1 ≤ 1048576) :
    HCalls Try.prog 25 [.s x0, .s x1] h (fun r h' => r = B (isClosed a0 a1) ∧ Ext h h') := by
  refine calls_of_hFun (m := 0) kd_ok mixed Try.func25 rfl (by kernel_rfl) rfl rfl (of_decide_eq_true rfl) ?_; unfold hFun; (conv => whnf)
  refine (spec_PositiveRoots _ _ a0 hx0 s0).mono ?_
  rintro r h1 ⟨y, rfl, E1, O1⟩
  have hps := posRoots_small a0
  (conv => whnf)
  refine HLoop.intro [7] [16, 17, 18, 19, 20, 21, 22, 8, 25, 26, 27, 30, 31, 32, 33, 34, 35, 36, 37, 38, 9, 39, 40, 41, 42, 43, 44, 45, 46, 47, 4, 28, 29, 8, 23, 24, 7] (by kernel_rfl) (by kernel_rfl) (fun vs h' => ∃ i : Nat, vs = [I i] ∧ i ≤ a1.length ∧ Ext h h' ∧ OwnM h.length h1.length h' y (posRoots a0) ∧ h1.length ≤ h'.length ∧ ∀ j, j < i → ∀ k, k < j → addW (a1.getD j []) (a1.getD k []) ∈ posRoots a0 → addW (a1.getD j []) (a1.getD k []) ∈ a1) (fun vs _ => a1.length - natAt vs 0) ⟨0, rfl, by omega, E1, O1, Nat.le_refl _, fun j hj => by omega⟩ ?_
  generalize h1.length = N at *
  clear E1 O1
  rintro vs h' ⟨i, rfl, hi, E, O, hN, hcl⟩
  (conv => whnf)
  refine ⟨rfl, (hx1.ext E).len ?_⟩
  (conv => whnf)
  by_cases hgo : i < a1.length ∧ isFinite a0 = true
  rotate_left
  · have hall : isFinite a0 = true → i = a1.length := fun hf => by
      by_cases e : i < a1.length
      · exact absurd ⟨e, hf⟩ hgo
      · omega
    by_cases hlt : (i : Int) < (a1.length : Int)
    case' pos =>
      have hf : isFinite a0 = false := by
        cases hf : isFinite a0
        · rfl
        · have := hall hf
          omega
      (repeat (first | (refine HIf.decT hlt ?_; conv => whnf) | (refine HIf.isF hf ?_; conv => whnf) | (refine HIf.no ?_; conv => whnf)))
    case' neg =>
      (repeat (first | (refine HIf.decF hlt ?_; conv => whnf) | (refine HIf.no ?_; conv => whnf)))
    all_goals
      refine HLoop.intro [10] [48, 49, 50, 51, 54, 55, 56, 57, 58, 59, 60, 4, 52, 53, 10] (by kernel_rfl) (by kernel_rfl) (fun vs h' => ∃ i : Nat, vs = [I i] ∧ i ≤ a1.length ∧ Ext h h' ∧ OwnM h.length N h' y (posRoots a0) ∧ ∀ j, j < i → a1.getD j [] ∈ posRoots a0) (fun vs _ => a1.length - natAt vs 0) ⟨0, rfl, by omega, E, O, fun j hj => by omega⟩ ?_
      clear E O hN hi hlt
      rintro vs h' ⟨t, rfl, ht, E, O, hin⟩
      (conv => whnf)
      refine ⟨rfl, (hx1.ext E).len ?_⟩
      (conv => whnf)
      refine HIf.dec (fun hlt => ?_) (fun hge => ?_)
      · (conv => whnf)
        have hle := len_le_tot (L := a1) (i := t) (by omega)
        refine ⟨rfl, (hx1.ext E).idxN (by omega) (fun p z hp hz => ?_)⟩
        (conv => whnf)
        refine ⟨rfl, hp.load ?_⟩
        (conv => whnf)
        refine (spec_l7In _ _ (posRoots a0) _ _ O.rows hz (by omega)).mono ?_
        rintro v h2 ⟨rfl, hh⟩
        subst h2
        (conv => whnf)
        by_cases hm : a1.getD t [] ∈ posRoots a0
        rotate_left
        · refine HIf.bnot (HIf.decF hm ?_)
          (conv => whnf)
          exact ⟨bEq (isClosed_off fun k => hm (k.2.1 t (by omega))), E⟩
        refine HIf.bnot (HIf.decT hm ?_)
        (conv => whnf)
        refine HArith.fits (by omega) (by omega) ?_
        (conv => whnf)
        exact ⟨⟨t + 1, rfl, by omega, E, O, fun j hj => by
          by_cases e : j = t
          · subst e; exact hm
          · exact hin j (by omega)⟩, by show a1.length - (t + 1) < a1.length - t; omega⟩
      · have et : t = a1.length := by omega
        subst et
        (conv => whnf)
        refine ⟨bEq ?_, E⟩
        cases hf : isFinite a0
        · exact isClosed_off fun k => by have := k.1; rw [hf] at this; cases this
        · have := hall hf
          subst this
          exact isClosed_on ⟨hf, hin, hcl⟩
  obtain ⟨hil, hf⟩ := hgo
  have hlt : (i : Int) < (a1.length : Int) := by omega
  have hle := len_le_tot (L := a1) (i := i) hil
  (repeat (first | (refine HIf.decT hlt ?_; conv => whnf) | (refine HIf.isT hf ?_; conv => whnf)))
  refine HLoop.intro [8] [25, 26, 27, 30, 31, 32, 33, 34, 35, 36, 37, 38, 9, 39, 40, 41, 42, 43, 44, 45, 46, 47, 4, 28, 29, 8] (by kernel_rfl) (by kernel_rfl) (fun vs h2 => ∃ k : Nat, vs = [I k] ∧ k ≤ i ∧ Ext h' h2 ∧ OwnM h.length N h2 y (posRoots a0) ∧ N ≤ h2.length ∧ ∀ j, j < k → addW (a1.getD i []) (a1.getD j []) ∈ posRoots a0 → addW (a1.getD i []) (a1.getD j []) ∈ a1) (fun vs _ => i - natAt vs 0) ⟨0, rfl, by omega, Ext.refl _, O, hN, fun j hj => by omega⟩ ?_
  clear O hN hlt
  rintro vs h2 ⟨k, rfl, hk, E2, O, hN, hck⟩
  have E3 := E.trans E2
  (conv => whnf)
  refine HIf.dec (fun hlt2 => ?_) (fun hge2 => ?_)
  · (conv => whnf)
    have hle2 := len_le_tot (L := a1) (i := k) (by omega)
    refine Or.inr (Or.inr (Or.inl (Exists.intro 10 (Exists.intro [0, 1, 2, 3, 4, 5, 6, 7] (Exists.intro [8, 9] (And.intro (show heldOk _ _ _ _ = true by kernel_rfl) ?_)))))); (conv => whnf)
    refine ⟨rfl, (hx1.ext E3).idxN hil (fun p z hp hz => ?_)⟩
    (conv => whnf)
    refine ⟨rfl, hp.load ?_⟩
    (conv => whnf)
    refine ⟨rfl, (hx1.ext E3).idxN (by omega) (fun p2 z2 hp2 hz2 => ?_)⟩
    (conv => whnf)
    refine ⟨rfl, hp2.load ?_⟩
    (conv => whnf)
    refine HCallF.fresh (spec_AddWeights _ _ _ _ _ hz.frz hz2.frz (by omega) (by omega)) (fun h4 z4 f4 => ?_)
    have hal := addW_len (a1.getD i []) (a1.getD k [])
    (conv => whnf)
    generalize hS : addW (a1.getD i []) (a1.getD k []) = S at *
    refine (spec_l7In _ _ (posRoots a0) _ S (O.ext f4.1).rows f4.ints (by omega)).mono ?_
    rintro v h5 ⟨rfl, hh⟩
    subst h5
    have E6 := f4.1
    have := E6.1
    have next : (S ∈ posRoots a0 → S ∈ a1) → (∃ k_1 : Nat, [I ((k : Int) + 1)] = [I k_1] ∧ k_1 ≤ i ∧ Ext h' h4 ∧ OwnM h.length N h4 y (posRoots a0) ∧ N ≤ h4.length ∧ ∀ j, j < k_1 → addW (a1.getD i []) (a1.getD j []) ∈ posRoots a0 → addW (a1.getD i []) (a1.getD j []) ∈ a1) := fun hs =>
      ⟨k + 1, rfl, by omega, E2.trans E6, O.ext E6, by omega, fun j hj => by
        by_cases e : j = k
        · subst e; rw [hS]; exact hs
        · exact hck j (by omega)⟩
    (conv => whnf)
    by_cases hm : S ∈ posRoots a0
    rotate_left
    · (repeat (first | (refine HIf.decF hm ?_; conv => whnf) | (refine HIf.no ?_; conv => whnf)))
      refine HArith.fits (by omega) (by omega) ?_
      (conv => whnf)
      exact ⟨next (fun q => absurd q hm), by show i - (k + 1) < i - k; omega⟩
    (repeat (first | (refine HIf.decT hm ?_; conv => whnf)))
    refine (spec_l7In _ _ a1 _ S ((hx1.ext E3).ext E6) f4.ints (by omega)).mono ?_
    rintro v h7 ⟨rfl, hh⟩
    subst h7
    (conv => whnf)
    (repeat (first | (refine HIf.decT hm ?_; conv => whnf)))
    by_cases hm2 : S ∈ a1
    rotate_left
    · (repeat (first | (refine HIf.bnot (HIf.decF hm2 ?_); conv => whnf) | (refine HIf.no ?_; conv => whnf) | (refine HIf.decT hm ?_; conv => whnf)))
      exact ⟨bEq (isClosed_off fun q => hm2 (by have := q.2.2 i (by omega) k (by omega); rw [hS] at this; exact this hm)), E3.trans E6⟩
    (repeat (first | (refine HIf.bnot (HIf.decT hm2 ?_); conv => whnf) | (refine HIf.yes ?_; conv => whnf) | (refine HIf.decT hm ?_; conv => whnf)))
    refine HArith.fits (by omega) (by omega) ?_
    (conv => whnf)
    exact ⟨next (fun _ => hm2), by show i - (k + 1) < i - k; omega⟩
  · have ek : k = i := by omega
    subst ek
    (conv => whnf)
    refine HArith.fits (by omega) (by omega) ?_
    (conv => whnf)
    exact ⟨⟨k + 1, rfl, by omega, E3, O, hN, fun j hj => by
      by_cases e : j = k
      · subst e; exact hck
      · exact hcl j (by omega)⟩, by show a1.length - (k + 1) < a1.length - k; omega⟩

end Go.Proofs.Ytnooeaemjnmkdaa.Hx
