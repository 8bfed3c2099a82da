
/-
  Contracts of finite types, of the program and of the reference.
-/
import Derived.Test.YtecfgbjddkpkcaaJf
namespace Go.Proofs.Ytecfgbjddkpkcaa.Hx
open Go.RowKit
variable {dm : Bool}

def minorsTo (c : List (List Int)) (k : Nat) : List Int := (List.range k).map fun t => dt c (t + 1)
theorem minorsTo_none (c : List (List Int)) : minorsTo c 0 = [] := rfl
theorem minorsTo_len (c : List (List Int)) (k : Nat) : (minorsTo c k).length = k := by simp [minorsTo]
theorem minorsTo_succ (c : List (List Int)) (k : Nat) : minorsTo c (k + 1) = minorsTo c k ++ [dt c (k + 1)] := by
  unfold minorsTo
  rw [List.range_succ, List.map_append]
  rfl
theorem minorsTo_get {c : List (List Int)} {k n : Nat} (h : k < n) : (minorsTo c n).getD k 0 = dt c (k + 1) := by simp [minorsTo, List.getD, h]
def setsTo (k : Nat) : List (List Int) := (List.range k).map fun t => setB (t + 1)
theorem setsTo_none : setsTo 0 = [] := rfl
theorem setsTo_len (k : Nat) : (setsTo k).length = k := by simp [setsTo]
theorem setsTo_succ (k : Nat) : setsTo (k + 1) = setsTo k ++ [setB (k + 1)] := by
  unfold setsTo
  rw [List.range_succ, List.map_append]
  rfl
theorem setsTo_get {k n : Nat} (h : k < n) : (setsTo n).getD k [] = setB (k + 1) := by simp [setsTo, List.getD, h]
theorem isFinite_off {c : List (List Int)} (h : isCartan c = false) : isFinite c = false := by simp [isFinite, h]
theorem isFinite_on {c : List (List Int)} (h : isCartan c = true) {l : List Int} (hl : l.length = 0 ↔ allPos c = true) : ((l.length : Int) == 0) = isFinite c := by
  have e : isFinite c = allPos c := by simp [isFinite, h]
  rw [e]
  by_cases h0 : l.length = 0
  · rw [hl.1 h0]
    exact beq_iff_eq.2 (by omega)
  · have : allPos c = false := by
      rw [Bool.eq_false_iff]
      exact fun e => h0 (hl.2 e)
    rw [this]
    exact beq_eq_false_iff_ne.2 (by omega)
theorem set_len4 (m : Nat) : (setB m).length ≤ 4 := setTo_len m 4


theorem impl_PrincipalMinors (h : Heap) (x : H0) (c : List (List Int)) (hx : Rows h x c) (hic : isCartan c = true) :
    HCalls dm Try.prog 71 [.s x] h (fun r h' => ∃ y, r = .s y ∧ Fresh h h' y (minorsTo c (2 ^ c.length - 1))) := by
  have hC := (isCartan_iff c).1 hic
  have h4 := hC.le
  have h16 := pow_le16 (n := c.length) (by omega)
  have E0 := Ext.push h [Row.own []]
  refine calls_of_hFun (m := 0) kd_ok mixed Try.func71 rfl (by kernel_rfl) rfl rfl (of_decide_eq_true rfl) ?_; unfold hFun; (conv => whnf)
  refine HLit.empty ?_
  (conv => whnf)
  refine (impl_IsCartan _ _ _ (hx.ext E0) (by omega)).mono ?_
  rintro r h1 ⟨rfl, hh⟩
  subst h1
  rw [hic]
  (conv => whnf)
  refine HIf.no ?_
  (conv => whnf)
  refine HLoop.intro [4, 3] [10, 11, 12, 13, 14, 17, 18, 19, 20, 21, 22, 23, 24, 3, 15, 16, 4] (by kernel_rfl) (by kernel_rfl) (fun vs h' => ∃ (k : Nat) (z : H0) (r : Nat), vs = [I ((k + 1 : Nat) : Int), .s z] ∧ k + 1 ≤ 2 ^ c.length ∧ Ext h h' ∧ h.length ≤ r ∧ OwnR r h' z (minorsTo c k)) (fun vs _ => 16 - natAt vs 0) ⟨0, _, h.length, rfl, Nat.one_le_two_pow, E0, Nat.le_refl _, OwnR.push h []⟩ ?_
  rintro vs h' ⟨k, z, r, rfl, hk, E, hr, O⟩
  have hml := minorsTo_len c k
  have hx1 := hx.ext E
  have hE := E.1
  (conv => whnf)
  refine ⟨rfl, hx1.len ?_⟩
  (conv => whnf)
  refine HShl.one (by omega) ?_
  (conv => whnf)
  refine HIf.dec (fun hlt => ?_) (fun hge => ?_)
  · obtain ⟨f1, f2, f3⟩ := setB_fits c.length (by omega) (k + 1) (by omega) (by omega)
    have hs4 := set_len4 (k + 1)
    (conv => whnf)
    refine (impl_setOf _ (k + 1) (by omega)).mono ?_
    rintro v h2 ⟨y2, rfl, g2⟩
    (conv => whnf)
    refine (impl_picked _ _ c _ _ (hx1.ext g2.1) g2.ints hC f2 hs4).mono ?_
    rintro v h3 ⟨y3, rfl, E3, O3⟩
    (conv => whnf)
    refine (impl_determinant _ hs4 _ _ _ O3.rows (pick_sq hC f2)).mono ?_
    rintro v h5 ⟨rfl, E5⟩
    have Eb := (g2.1.trans E3).trans E5
    have hEb := Eb.1
    have es : minorsTo c (k + 1) = minorsTo c k ++ [detZ (setB (k + 1)).length (pick c (setB (k + 1)))] := minorsTo_succ c k
    (conv => whnf)
    refine HLit.one ?_
    (conv => whnf)
    refine ⟨rfl, rfl, HApp.snocR (O.ext Eb) (by omega) (fun h6 r6 y6 B6 hr6 O6 => ?_)⟩
    rw [← es] at O6
    (conv => whnf)
    refine HArith.to (e' := ((k + 1 + 1 : Nat) : Int)) (by omega) (by omega) (by omega) ?_
    (conv => whnf)
    exact ⟨⟨k + 1, y6, r6, rfl, by omega, (E.trans Eb).but B6 hr, by omega, O6⟩, by show 16 - (k + 1 + 1) < 16 - (k + 1); omega⟩
  · have e : 2 ^ c.length - 1 = k := by omega
    rw [e]
    (conv => whnf)
    exact ⟨_, rfl, Fresh.ofRow E O hr⟩

theorem impl_WitnessOf (h : Heap) (x : H0) (c : List (List Int)) (hx : Rows h x c) (hic : isCartan c = true) :
    HCalls dm Try.prog 49 [.s x] h (fun r h' => ∃ (y : H0) (l : List Int), r = .s y ∧ Ext h h' ∧ Ints h' y l ∧ (l.length = 0 ↔ allPos c = true)) := by
  have hC := (isCartan_iff c).1 hic
  have h4 := hC.le
  have h16 := pow_le16 (n := c.length) (by omega)
  refine calls_of_hFun (m := 0) kd_ok mixed Try.func49 rfl (by kernel_rfl) rfl rfl (of_decide_eq_true rfl) ?_; unfold hFun; (conv => whnf)
  refine (impl_PrincipalMinors _ _ c hx hic).mono ?_
  rintro r h1 ⟨y1, rfl, f1⟩
  have hy := f1.ints
  have hml := minorsTo_len c (2 ^ c.length - 1)
  (conv => whnf)
  refine ⟨rfl, hy.len ?_⟩
  rw [hml]
  (conv => whnf)
  refine HLoop.intro [8] [9, 10, 11, 12, 3, 4, 13, 14, 15, 16, 17, 2, 18, 8] (by kernel_rfl) (by kernel_rfl) (fun vs h' => ∃ k : Nat, vs = [I k] ∧ k ≤ 2 ^ c.length - 1 ∧ h' = h1 ∧ ∀ t, t < k → 0 < dt c (t + 1)) (fun vs _ => 16 - natAt vs 0) ⟨0, rfl, by omega, rfl, fun t ht => by omega⟩ ?_
  rintro vs h' ⟨k, rfl, hk, hh, hb⟩
  subst h'
  (conv => whnf)
  refine HIf.dec (fun hlt => ?_) (fun hge => ?_)
  · have hg := minorsTo_get (c := c) (k := k) (n := 2 ^ c.length - 1) (by omega)
    (conv => whnf)
    refine ⟨rfl, Ints.idxN hy (by omega) (fun p hp => ?_)⟩
    rw [hg] at hp
    (conv => whnf)
    refine ⟨rfl, hp.load ?_⟩
    (conv => whnf)
    refine HIf.dec (fun hle => ?_) (fun hpos => ?_)
    · (conv => whnf)
      refine HArith.to (e' := ((k + 1 : Nat) : Int)) (by omega) (by omega) (by omega) ?_
      (conv => whnf)
      refine (impl_setOf _ (k + 1) (by omega)).mono ?_
      rintro v h2 ⟨y2, rfl, g2⟩
      have f1' := (setB_fits c.length (by omega) (k + 1) (by omega) (by omega)).1
      have hap := allPos_not (c := c) (k := k) (by omega) hle
      (conv => whnf)
      exact ⟨_, _, rfl, f1.1.trans g2.1, g2.ints, ⟨fun h => absurd h f1', fun h => by rw [hap] at h; cases h⟩⟩
    · (conv => whnf)
      refine HArith.fits (by omega) (by omega) ?_
      (conv => whnf)
      refine ⟨⟨k + 1, rfl, by omega, rfl, fun t ht => ?_⟩, by show 16 - (k + 1) < 16 - k; omega⟩
      by_cases e : t = k
      · subst e; omega
      · exact hb t (by omega)
  · have hap := allPos_of (c := c) (fun t ht => hb t (by omega))
    (conv => whnf)
    refine HLit.empty ?_
    (conv => whnf)
    exact ⟨_, [], rfl, f1.1.trans (Ext.push _ _), (OwnR.push _ []).ints, ⟨fun _ => hap, fun _ => rfl⟩⟩

theorem impl_IsFinite (h : Heap) (x : H0) (c : List (List Int)) (hx : Rows h x c) (hcl : c.length ≤ 1048576) :
    HCalls dm Try.prog 26 [.s x] h (fun r h' => r = B (isFinite c) ∧ Ext h h') := by
  refine calls_of_hFun (m := 0) kd_ok mixed Try.func26 rfl (by kernel_rfl) rfl rfl (of_decide_eq_true rfl) ?_; unfold hFun; (conv => whnf)
  refine (impl_IsCartan _ _ _ hx (by omega)).mono ?_
  rintro r h1 ⟨rfl, hh⟩
  subst h1
  (conv => whnf)
  cases hic : isCartan c
  · (repeat (first | (refine HIf.no ?_; conv => whnf)))
    exact ⟨bEq (isFinite_off hic), Ext.refl _⟩
  refine HIf.yes ?_
  (conv => whnf)
  refine HIf.yes ?_
  (conv => whnf)
  refine (impl_WitnessOf _ _ c hx hic).mono ?_
  rintro r h1 ⟨y, l, rfl, E, hl, hiff⟩
  have hfin := isFinite_on hic hiff
  (conv => whnf)
  (repeat (first | (refine HIf.yes ?_; conv => whnf) | (refine ⟨rfl, hl.len ?_⟩; conv => whnf)))
  exact ⟨bEq hfin.symm, E⟩

theorem spec_l4Sets (h : Heap) (n : Nat) (hn : n < 5) :
    HCalls dm Try.prog 68 [I n] h (fun r h' => ∃ y, r = .s y ∧ Ext h h' ∧ OwnM h.length h'.length h' y (setsTo (2 ^ n - 1))) := by
  have h16 := pow_le16 hn
  refine calls_of_hFun (m := 0) kd_ok mixed Try.func68 rfl (by kernel_rfl) rfl rfl (of_decide_eq_true rfl) ?_; unfold hFun; (conv => whnf)
  refine HLit.empty ?_
  (conv => whnf)
  refine HLoop.intro [4, 3] [8, 9, 10, 11, 14, 5, 6, 15, 16, 17, 20, 21, 22, 23, 24, 25, 26, 27, 28, 5, 18, 19, 6, 29, 30, 31, 32, 3, 12, 13, 4] (by kernel_rfl) (by kernel_rfl) (fun vs h' => ∃ (k : Nat) (z : H0), vs = [I ((k + 1 : Nat) : Int), .s z] ∧ k + 1 ≤ 2 ^ n ∧ Ext h h' ∧ OwnM h.length h'.length h' z (setsTo k)) (fun vs _ => 16 - natAt vs 0) ⟨0, _, rfl, Nat.one_le_two_pow, Ext.push _ _, OwnM.none h⟩ ?_
  rintro vs h' ⟨k, z, rfl, hk, E, OM⟩
  have hsl := setsTo_len k
  (conv => whnf)
  refine HShl.one hn ?_
  (conv => whnf)
  refine HIf.dec (fun hlt => ?_) (fun hge => ?_)
  · have Ep := Ext.push h' [Row.own []]
    (conv => whnf)
    refine HLit.empty ?_
    (conv => whnf)
    refine HLoop.intro [6, 5] [15, 16, 17, 20, 21, 22, 23, 24, 25, 26, 27, 28, 5, 18, 19, 6] (by kernel_rfl) (by kernel_rfl) (fun vs h2 => ∃ (b : Nat) (y : H0) (r : Nat), vs = [I b, .s y] ∧ b ≤ n ∧ Ext h' h2 ∧ h'.length ≤ r ∧ OwnR r h2 y (setTo (k + 1) b)) (fun vs _ => n - natAt vs 0) ⟨0, _, h'.length, rfl, by omega, Ep, Nat.le_refl _, OwnR.push h' []⟩ ?_
    rintro vs h2 ⟨b, y, r, rfl, hb, E2, hr, O⟩
    have htl := setTo_len (k + 1) b
    have hE2 := E2.1
    have hdl : (k + 1) / 2 ^ b ≤ k + 1 := Nat.div_le_self _ _
    (conv => whnf)
    refine HIf.dec (fun hltb => ?_) (fun hgeb => ?_)
    · (conv => whnf)
      refine HShr.bits (by omega) (by omega) ?_
      (conv => whnf)
      refine HAnd.one (by omega) ?_
      (conv => whnf)
      rw [bit_one]
      cases hbt : bit (k + 1) b
      · rw [← setTo_out hbt] at O
        refine HIf.no ?_
        (conv => whnf)
        refine HArith.fits (by omega) (by omega) ?_
        (conv => whnf)
        exact ⟨⟨b + 1, y, r, rfl, by omega, E2, hr, O⟩, by show n - (b + 1) < n - b; omega⟩
      · refine HIf.yes ?_
        (conv => whnf)
        refine HLit.one ?_
        (conv => whnf)
        refine ⟨rfl, rfl, HApp.snocR O (by omega) (fun h3 r3 y3 B3 hr3 O3 => ?_)⟩
        rw [← setTo_in hbt] at O3
        (conv => whnf)
        refine HArith.fits (by omega) (by omega) ?_
        (conv => whnf)
        exact ⟨⟨b + 1, y3, r3, rfl, by omega, E2.but B3 hr, by omega, O3⟩, by show n - (b + 1) < n - b; omega⟩
    · have e : b = n := by omega
      rw [e, setTo_all n hn (k + 1) (by omega)] at O
      have F := O.own hr
      (conv => whnf)
      refine HLit.row F.one ?_
      (conv => whnf)
      refine ⟨rfl, rfl, HApp.snocM E OM E2 F (by omega) (fun h5 y5 E5 O5 => ?_)⟩
      rw [← setsTo_succ] at O5
      (conv => whnf)
      refine HArith.to (e' := ((k + 1 + 1 : Nat) : Int)) (by omega) (by omega) (by omega) ?_
      (conv => whnf)
      exact ⟨⟨k + 1, y5, rfl, by omega, E5, O5⟩, by show 16 - (k + 1 + 1) < 16 - (k + 1); omega⟩
  · have e : 2 ^ n - 1 = k := by omega
    rw [e]
    (conv => whnf)
    exact ⟨_, rfl, E, OM⟩

theorem spec_l3Set (h : Heap) (x0 : H0) (c : List (List Int)) (x1 : H0) (o : List Int) (hx0 : Rows h x0 c) (hx1 : Ints h x1 o) (hic : isCartan c = true) (ho : ∀ k, k < o.length → 0 ≤ o.getD k 0 ∧ o.getD k 0 < c.length) (hs : ∀ k, k < o.length → k = 0 ∨ o.getD (k - 1) 0 < o.getD k 0) (hol : o.length ≤ 4) :
    HCalls dm Try.prog 81 [.s x0, .s x1] h (fun r h' => r = B true ∧ h' = h) := by
  have hC := (isCartan_iff c).1 hic
  have h4 := hC.le
  refine calls_of_hFun (m := 0) kd_ok mixed Try.func81 rfl (by kernel_rfl) rfl rfl (of_decide_eq_true rfl) ?_; unfold hFun; (conv => whnf)
  refine HLoop.intro [5] [6, 7, 8, 9, 12, 13, 14, 15, 16, 17, 18, 19, 20, 21, 22, 23, 24, 25, 26, 27, 28, 29, 30, 31, 32, 33, 34, 35, 36, 4, 10, 11, 5] (by kernel_rfl) (by kernel_rfl) (fun vs h' => ∃ k : Nat, vs = [I k] ∧ k ≤ o.length ∧ h' = h) (fun vs _ => o.length - natAt vs 0) ⟨0, rfl, by omega, rfl⟩ ?_
  rintro vs h' ⟨k, rfl, hk, hh⟩
  subst h'
  (conv => whnf)
  refine ⟨rfl, hx1.len ?_⟩
  (conv => whnf)
  refine HIf.dec (fun hlt => ?_) (fun hge => ?_)
  · have hok := ho k (by omega)
    have hsk := hs k (by omega)
    have hpt : isPoint c (o.getD k 0) = true := by simp only [isPoint, inRange, Bool.and_eq_true, decide_eq_true_eq]; omega
    have idx1 : ∀ {K : HV → Prop}, (∀ p, At h p (ci (o.getD k 0)) → K (.s p)) → HIdx h (.s x1) (I k) K := fun hK => Ints.idxN hx1 (by omega) hK
    (conv => whnf)
    refine Or.inl (And.intro (show Region.lexB _ _ = true by kernel_rfl) ?_); (conv => whnf)
    refine ⟨rfl, idx1 (fun p hp => ?_)⟩
    (conv => whnf)
    refine ⟨rfl, hp.load ?_⟩
    (conv => whnf)
    refine ⟨rfl, hx0.len ?_⟩
    (conv => whnf)
    refine HArith.fits (by omega) (by omega) ?_
    (conv => whnf)
    refine HCallQ.of (.bool (decide (0 ≤ o.getD k 0) && decide (o.getD k 0 ≤ (c.length : Int) - 1))) (spec_l1In _ (o.getD k 0) 0 ((c.length : Int) - 1)) (fun x h' hR => hR.1) ?_
    rw [isPoint_l1, hpt]
    (conv => whnf)
    by_cases hk0 : (k : Int) > 0
    · have idx2 : ∀ {K : HV → Prop}, (∀ p, At h p (ci (o.getD (k - 1) 0)) → K (.s p)) → HIdx h (.s x1) (I ((k - 1 : Nat) : Int)) K := fun hK => Ints.idxN hx1 (by omega) hK
      have hng : ¬ (o.getD (k - 1) 0 ≥ o.getD k 0) := by omega
      (repeat (first | (refine HIf.yes ?_; conv => whnf) | (refine HIf.no ?_; conv => whnf) | (refine HIf.decT hk0 ?_; conv => whnf) | (refine HArith.to (e' := ((k - 1 : Nat) : Int)) (by omega) (by omega) (by omega) ?_; conv => whnf) | (refine ⟨rfl, idx2 (fun p hp => ?_)⟩; conv => whnf) | (refine ⟨rfl, idx1 (fun p hp => ?_)⟩; conv => whnf) | (refine ⟨rfl, At.load (by assumption) ?_⟩; conv => whnf)))
      refine HIf.decF hng ?_
      (conv => whnf)
      refine HArith.fits (by omega) (by omega) ?_
      (conv => whnf)
      exact ⟨⟨k + 1, rfl, by omega, rfl⟩, by show o.length - (k + 1) < o.length - k; omega⟩
    · (repeat (first | (refine HIf.yes ?_; conv => whnf) | (refine HIf.no ?_; conv => whnf) | (refine HIf.decF hk0 ?_; conv => whnf)))
      refine HArith.fits (by omega) (by omega) ?_
      (conv => whnf)
      exact ⟨⟨k + 1, rfl, by omega, rfl⟩, by show o.length - (k + 1) < o.length - k; omega⟩
  · (conv => whnf)
    refine (spec_IsCartan _ _ _ hx0 (by omega)).mono ?_
    rintro r h1 ⟨rfl, hh⟩
    subst h1
    rw [hic]
    (conv => whnf)
    exact ⟨rfl, rfl⟩

theorem spec_SubCartan (h : Heap) (x0 : H0) (c : List (List Int)) (x1 : H0) (o : List Int) (hx0 : Rows h x0 c) (hx1 : Ints h x1 o) (hic : isCartan c = true) (ho : ∀ k, k < o.length → 0 ≤ o.getD k 0 ∧ o.getD k 0 < c.length) (hs : ∀ k, k < o.length → k = 0 ∨ o.getD (k - 1) 0 < o.getD k 0) (hol : o.length ≤ 4) (hne : o.length ≠ 0) :
    HCalls dm Try.prog 69 [.s x0, .s x1] h (fun r h' => ∃ y, r = T2 y true ∧ Ext h h' ∧ OwnM h.length h'.length h' y (pick c o)) := by
  have hC := (isCartan_iff c).1 hic
  have h4 := hC.le
  have E0 := Ext.push h [Row.own []]
  have hx10 := hx1.ext E0
  refine calls_of_hFun (m := 0) kd_ok mixed Try.func69 rfl (by kernel_rfl) rfl rfl (of_decide_eq_true rfl) ?_; unfold hFun; (conv => whnf)
  refine HLit.empty ?_
  (conv => whnf)
  refine (spec_l3Set _ _ c _ o (hx0.ext E0) hx10 hic ho hs hol).mono ?_
  rintro r h1 ⟨rfl, hh⟩
  subst h1
  have hz : ¬ ((o.length : Int) = 0) := by omega
  (conv => whnf)
  (repeat (first | (refine HIf.yes ?_; conv => whnf) | (refine HIf.no ?_; conv => whnf) | (refine ⟨rfl, hx10.len ?_⟩; conv => whnf)))
  refine HIf.beqF hz ?_
  (conv => whnf)
  refine HLoop.intro [7, 6] [21, 22, 23, 24, 27, 8, 9, 28, 29, 30, 31, 34, 35, 36, 37, 38, 39, 40, 41, 42, 43, 44, 45, 46, 47, 48, 49, 8, 32, 33, 9, 50, 51, 52, 53, 6, 25, 26, 7] (by kernel_rfl) (by kernel_rfl) (fun vs h' => ∃ (a : Nat) (z : H0), vs = [I a, .s z] ∧ a ≤ o.length ∧ Ext h h' ∧ OwnM h.length h'.length h' z (pickTo c o a)) (fun vs _ => o.length - natAt vs 0) ⟨0, _, rfl, by omega, Ext.push _ _, OwnM.none h⟩ ?_
  rintro vs h' ⟨a, z, rfl, ha, E, OM⟩
  have hpl := pickTo_len c o a
  have hx1 := hx1.ext E
  (conv => whnf)
  refine ⟨rfl, hx1.len ?_⟩
  (conv => whnf)
  refine HIf.dec (fun hlt => ?_) (fun hge => ?_)
  · have hoa := ho a (by omega)
    obtain ⟨i, hi⟩ : ∃ i : Nat, o.getD a 0 = (i : Int) := ⟨(o.getD a 0).toNat, by omega⟩
    rw [hi] at hoa
    have hir := hC.row i (by omega)
    have Ep := Ext.push h' [Row.own []]
    (conv => whnf)
    refine HLit.empty ?_
    (conv => whnf)
    refine HLoop.intro [9, 8] [28, 29, 30, 31, 34, 35, 36, 37, 38, 39, 40, 41, 42, 43, 44, 45, 46, 47, 48, 49, 8, 32, 33, 9] (by kernel_rfl) (by kernel_rfl) (fun vs h2 => ∃ (b : Nat) (y : H0) (r : Nat), vs = [I b, .s y] ∧ b ≤ o.length ∧ Ext h' h2 ∧ h'.length ≤ r ∧ OwnR r h2 y (pickRow c o i b)) (fun vs _ => o.length - natAt vs 0) ⟨0, _, h'.length, rfl, by omega, Ep, Nat.le_refl _, OwnR.push h' []⟩ ?_
    rintro vs h2 ⟨b, y, r, rfl, hb, E2, hr, O⟩
    have hrl := pickRow_len c o i b
    have hE2 := E2.1
    have hx12 := hx1.ext E2
    (conv => whnf)
    refine ⟨rfl, hx12.len ?_⟩
    (conv => whnf)
    refine HIf.dec (fun hltb => ?_) (fun hgeb => ?_)
    · have hob := ho b (by omega)
      obtain ⟨j, hj⟩ : ∃ j : Nat, o.getD b 0 = (j : Int) := ⟨(o.getD b 0).toNat, by omega⟩
      rw [hj] at hob
      have hx02 := (hx0.ext E).ext E2
      (conv => whnf)
      refine Or.inr (Or.inr (Or.inl (Exists.intro 15 (Exists.intro [0, 1, 2, 3, 4, 5, 6, 7, 8, 9, 10, 11, 12, 13] (Exists.intro [14, 15, 16] (And.intro (show heldOk _ _ _ _ = true by kernel_rfl) ?_)))))); (conv => whnf)
      refine ⟨rfl, Ints.idxN hx12 (by omega) (fun p hp => ?_)⟩
      rw [hi] at hp
      (conv => whnf)
      refine ⟨rfl, hp.load ?_⟩
      (conv => whnf)
      refine ⟨rfl, Rows.idxN hx02 (by omega) (fun p3 y3 hp3 hy3 => ?_)⟩
      (conv => whnf)
      refine ⟨rfl, hp3.load ?_⟩
      (conv => whnf)
      refine ⟨rfl, Ints.idxN hx12 (by omega) (fun p2 hp2 => ?_)⟩
      rw [hj] at hp2
      (conv => whnf)
      refine ⟨rfl, hp2.load ?_⟩
      (conv => whnf)
      refine ⟨rfl, Ints.idxN hy3 (by omega) (fun p4 hp4 => ?_)⟩
      (conv => whnf)
      refine ⟨rfl, hp4.load ?_⟩
      rw [ent_eq]
      (conv => whnf)
      refine HLit.one ?_
      (conv => whnf)
      refine ⟨rfl, rfl, HApp.snocR O (by omega) (fun h3 r3 y5 B3 hr3 O3 => ?_)⟩
      have es : pickRow c o i (b + 1) = pickRow c o i b ++ [ent c i j] := by rw [pickRow_succ, hj]; rfl
      rw [← es] at O3
      (conv => whnf)
      refine HArith.fits (by omega) (by omega) ?_
      (conv => whnf)
      exact ⟨⟨b + 1, y5, r3, rfl, by omega, E2.but B3 hr, by omega, O3⟩, by show o.length - (b + 1) < o.length - b; omega⟩
    · have e : b = o.length := by omega
      subst e
      have er : pickTo c o (a + 1) = pickTo c o a ++ [pickRow c o i o.length] := by rw [pickTo_succ, hi]; rfl
      have F := O.own hr
      (conv => whnf)
      refine HLit.row F.one ?_
      (conv => whnf)
      refine ⟨rfl, rfl, HApp.snocM E OM E2 F (by omega) (fun h5 y5 E5 O5 => ?_)⟩
      rw [← er] at O5
      (conv => whnf)
      refine HArith.fits (by omega) (by omega) ?_
      (conv => whnf)
      exact ⟨⟨a + 1, y5, rfl, by omega, E5, O5⟩, by show o.length - (a + 1) < o.length - a; omega⟩
  · have e : a = o.length := by omega
    subst e
    (conv => whnf)
    exact ⟨_, rfl, E, OM⟩

theorem spec_WitnessOf (h : Heap) (x : H0) (c : List (List Int)) (hx : Rows h x c) (hic : isCartan c = true) :
    HCalls dm Try.prog 47 [.s x] h (fun r h' => ∃ (y : H0) (l : List Int), r = .s y ∧ Ext h h' ∧ Ints h' y l ∧ (l.length = 0 ↔ allPos c = true)) := by
  have hC := (isCartan_iff c).1 hic
  have h4 := hC.le
  have h16 := pow_le16 (n := c.length) (by omega)
  refine calls_of_hFun (m := 0) kd_ok mixed Try.func47 rfl (by kernel_rfl) rfl rfl (of_decide_eq_true rfl) ?_; unfold hFun; (conv => whnf)
  refine (spec_IsCartan _ _ _ hx (by omega)).mono ?_
  rintro r h1 ⟨rfl, hh⟩
  subst h1
  rw [hic]
  (conv => whnf)
  refine HIf.no ?_
  (conv => whnf)
  refine ⟨rfl, hx.len ?_⟩
  (conv => whnf)
  refine (spec_l4Sets _ c.length (by omega)).mono ?_
  rintro r h1 ⟨y1, rfl, E1, OM⟩
  have hsl := setsTo_len (2 ^ c.length - 1)
  (conv => whnf)
  refine HLoop.intro [4] [14, 15, 16, 17, 21, 22, 23, 24, 25, 26, 20, 27, 28, 5, 6, 29, 30, 31, 32, 33, 34, 35, 2, 18, 19, 4] (by kernel_rfl) (by kernel_rfl) (fun vs h' => ∃ k : Nat, vs = [I k] ∧ k ≤ 2 ^ c.length - 1 ∧ Ext h1 h' ∧ ∀ t, t < k → 0 < dt c (t + 1)) (fun vs _ => 16 - natAt vs 0) ⟨0, rfl, by omega, Ext.refl _, fun t ht => by omega⟩ ?_
  rintro vs h' ⟨k, rfl, hk, E2, hb⟩
  have R := (OM.ext E2).rows
  have E := E1.trans E2
  (conv => whnf)
  refine ⟨rfl, R.len ?_⟩
  rw [hsl]
  (conv => whnf)
  refine HIf.dec (fun hlt => ?_) (fun hge => ?_)
  · have hg := setsTo_get (k := k) (n := 2 ^ c.length - 1) (by omega)
    obtain ⟨f1, f2, f3⟩ := setB_fits c.length (by omega) (k + 1) (by omega) (by omega)
    have hs4 := set_len4 (k + 1)
    (conv => whnf)
    refine ⟨rfl, Rows.idxN R (by omega) (fun p z hp hz => ?_)⟩
    rw [hg] at hz
    (conv => whnf)
    refine ⟨rfl, hp.load ?_⟩
    (conv => whnf)
    refine (spec_SubCartan _ _ c _ _ (hx.ext E) hz hic f2 f3 hs4 f1).mono ?_
    rintro v h3 ⟨y3, rfl, E3, O3⟩
    (conv => whnf)
    refine (spec_l4Det _ hs4 _ _ _ O3.rows (pick_sq hC f2)).mono ?_
    rintro v h5 ⟨rfl, E5⟩
    have E35 := E3.trans E5
    have R5 := R.ext E35
    have ed : detZ (setB (k + 1)).length (pick c (setB (k + 1))) = dt c (k + 1) := rfl
    rw [ed]
    (conv => whnf)
    refine HIf.dec (fun hle => ?_) (fun hpos => ?_)
    · have hap := allPos_not (c := c) (k := k) (by omega) hle
      (conv => whnf)
      refine ⟨rfl, Rows.idxN R5 (by omega) (fun p7 z7 hp7 hz7 => ?_)⟩
      rw [hg] at hz7
      (conv => whnf)
      refine ⟨rfl, hp7.load ?_⟩
      (conv => whnf)
      exact ⟨_, _, rfl, E.trans E35, hz7, ⟨fun h => absurd h f1, fun h => by rw [hap] at h; cases h⟩⟩
    · (conv => whnf)
      refine HArith.fits (by omega) (by omega) ?_
      (conv => whnf)
      refine ⟨⟨k + 1, rfl, by omega, E2.trans E35, fun t ht => ?_⟩, by show 16 - (k + 1) < 16 - k; omega⟩
      by_cases e : t = k
      · subst e; omega
      · exact hb t (by omega)
  · have hap := allPos_of (c := c) (fun t ht => hb t (by omega))
    (conv => whnf)
    refine HLit.empty ?_
    (conv => whnf)
    exact ⟨_, [], rfl, E.trans (Ext.push _ _), (OwnR.push _ []).ints, ⟨fun _ => hap, fun _ => rfl⟩⟩

theorem spec_IsFinite (h : Heap) (x : H0) (c : List (List Int)) (hx : Rows h x c) (hcl : c.length ≤ 1048576) :
    HCalls dm Try.prog 24 [.s x] h (fun r h' => r = B (isFinite c) ∧ Ext h h') := by
  refine calls_of_hFun (m := 0) kd_ok mixed Try.func24 rfl (by kernel_rfl) rfl rfl (of_decide_eq_true rfl) ?_; unfold hFun; (conv => whnf)
  refine (spec_IsCartan _ _ _ hx (by omega)).mono ?_
  rintro r h1 ⟨rfl, hh⟩
  subst h1
  (conv => whnf)
  cases hic : isCartan c
  · (repeat (first | (refine HIf.no ?_; conv => whnf)))
    exact ⟨bEq (isFinite_off hic), Ext.refl _⟩
  refine HIf.yes ?_
  (conv => whnf)
  refine HIf.yes ?_
  (conv => whnf)
  refine (spec_WitnessOf _ _ c hx hic).mono ?_
  rintro r h1 ⟨y, l, rfl, E, hl, hiff⟩
  have hfin := isFinite_on hic hiff
  (conv => whnf)
  (repeat (first | (refine HIf.yes ?_; conv => whnf) | (refine ⟨rfl, hl.len ?_⟩; conv => whnf)))
  exact ⟨bEq hfin.symm, E⟩

end Go.Proofs.Ytecfgbjddkpkcaa.Hx
