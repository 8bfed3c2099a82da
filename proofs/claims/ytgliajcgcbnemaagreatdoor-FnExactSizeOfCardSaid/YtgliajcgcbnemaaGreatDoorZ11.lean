/-
  Contracts of finite types, of the program and of the reference.
  Contracts of powers, exchange places, replayed and repeated deletions, of the program and of the reference.
  Contracts of exchange places, replayed and repeated deletions, of the program and of the reference.
  Braid relations and Matsumoto's theorem for the game of signs: the reduced words of an element are all joined by braid moves. Plain theory; nothing of a program is named here.
  Contracts of bonds, alternating words and braid moves, of the program and of the reference.
  Reduced words on lists: braid moves keep the element and join all its reduced words; the list of all of them in the order of letters. Plain theory.
-/
import Derived.Test.YtgliajcgcbnemaaGreatDoorZ10
namespace Go.Proofs.YtgliajcgcbnemaaGreatDoor.Hx
open Go.RowKit
variable {dm : Bool}

def minorsTo (c : List (List Int)) (k : Nat) : List Int := (List.range k).map fun t => dt c (t + 1)
theorem minorsTo_len (c : List (List Int)) (k : Nat) : (minorsTo c k).length = k := by simp [minorsTo]
theorem minorsTo_succ (c : List (List Int)) (k : Nat) : minorsTo c (k + 1) = minorsTo c k ++ [dt c (k + 1)] := by
  unfold minorsTo
  rw [List.range_succ, List.map_append]
  rfl
theorem minorsTo_get {c : List (List Int)} {k n : Nat} (h : k < n) : (minorsTo c n).getD k 0 = dt c (k + 1) := by simp [minorsTo, List.getD, h]
def setsTo (k : Nat) : List (List Int) := (List.range k).map fun t => setB (t + 1)
theorem setsTo_len (k : Nat) : (setsTo k).length = k := by simp [setsTo]
theorem setsTo_succ (k : Nat) : setsTo (k + 1) = setsTo k ++ [setB (k + 1)] := by
  unfold setsTo
  rw [List.range_succ, List.map_append]
  rfl
theorem setsTo_get {k n : Nat} (h : k < n) : (setsTo n).getD k [] = setB (k + 1) := by simp [setsTo, List.getD, h]
theorem isFinite_off {c : List (List Int)} (h : isCartan c = false) : isFinite c = false := by simp [isFinite, h]
theorem isFinite_on {c : List (List Int)} (h : isCartan c = true) {l : List Int} (hl : l.length = 0 ↔ allPos c = true) : ((l.length : Int) == 0) = isFinite c := by
  have e : isFinite c = allPos c := by simp [isFinite, h]
  rw [e]
  by_cases h0 : l.length = 0
  · rw [hl.1 h0]
    exact beq_iff_eq.2 (by omega)
  · have : allPos c = false := by
      rw [Bool.eq_false_iff]
      exact fun e => h0 (hl.2 e)
    rw [this]
    exact beq_eq_false_iff_ne.2 (by omega)
theorem set_len4 (m : Nat) : (setB m).length ≤ 4 := setTo_len m 4


theorem impl_PrincipalMinors (h : Heap) (x : H0) (c : List (List Int)) (hx : Rows h x c) (hic : isCartan c = true) :
    HCalls dm Tryz.prog 185 [.s x] h (fun r h' => ∃ y, r = .s y ∧ Fresh h h' y (minorsTo c (2 ^ c.length - 1))) := by
  have hC := (isCartan_iff c).1 hic
  have h4 := hC.le
  have h16 := pow_le16 (n := c.length) (by omega)
  have E0 := Ext.push h [Row.own []]
  refine calls_of_hFun (m := 0) kd_ok mixed Tryz.func185 rfl (by kernel_rfl) rfl rfl (of_decide_eq_true rfl) ?_; unfold hFun; (conv => whnf)
  refine HLit.empty ?_
  (conv => whnf)
  refine (impl_IsCartan _ _ _ (hx.ext E0) (by omega)).mono ?_
  rintro r h1 ⟨rfl, hh⟩
  subst h1
  rw [hic]
  (conv => whnf)
  refine HIf.no ?_
  (conv => whnf)
  refine HLoop.intro [4, 3] [10, 11, 12, 13, 14, 17, 18, 19, 20, 21, 22, 23, 24, 3, 15, 16, 4] (by kernel_rfl) (by kernel_rfl) (fun vs h' => ∃ (k : Nat) (z : H0) (r : Nat), vs = [I ((k + 1 : Nat) : Int), .s z] ∧ k + 1 ≤ 2 ^ c.length ∧ Ext h h' ∧ h.length ≤ r ∧ OwnR r h' z (minorsTo c k)) (fun vs _ => 16 - natAt vs 0) ⟨0, _, h.length, rfl, Nat.one_le_two_pow, E0, Nat.le_refl _, OwnR.push h []⟩ ?_
  rintro vs h' ⟨k, z, r, rfl, hk, E, hr, O⟩
  have hml := minorsTo_len c k
  have hx1 := hx.ext E
  have hE := E.1
  (conv => whnf)
  refine ⟨rfl, hx1.len ?_⟩
  (conv => whnf)
  refine HShl.one (by omega) ?_
  (conv => whnf)
  refine HIf.dec (fun hlt => ?_) (fun hge => ?_)
  · obtain ⟨f1, f2, f3⟩ := setB_fits c.length (by omega) (k + 1) (by omega) (by omega)
    have hs4 := set_len4 (k + 1)
    (conv => whnf)
    refine (impl_setOf _ (k + 1) (by omega)).mono ?_
    rintro v h2 ⟨y2, rfl, g2⟩
    (conv => whnf)
    refine (impl_picked _ _ c _ _ (hx1.ext g2.1) g2.ints hC f2 hs4).mono ?_
    rintro v h3 ⟨y3, rfl, E3, O3⟩
    (conv => whnf)
    refine (impl_determinant _ hs4 _ _ _ O3.rows (pick_sq hC f2)).mono ?_
    rintro v h5 ⟨rfl, E5⟩
    have Eb := (g2.1.trans E3).trans E5
    have hEb := Eb.1
    have es : minorsTo c (k + 1) = minorsTo c k ++ [detZ (setB (k + 1)).length (pick c (setB (k + 1)))] := minorsTo_succ c k
    (conv => whnf)
    refine HLit.one ?_
    (conv => whnf)
    refine ⟨rfl, rfl, HApp.snocR (O.ext Eb) (by omega) (fun h6 r6 y6 B6 hr6 O6 => ?_)⟩
    rw [← es] at O6
    (conv => whnf)
    refine HArith.to (e' := ((k + 1 + 1 : Nat) : Int)) (by omega) (by omega) (by omega) ?_
    (conv => whnf)
    exact ⟨⟨k + 1, y6, r6, rfl, by omega, (E.trans Eb).but B6 hr, by omega, O6⟩, by show 16 - (k + 1 + 1) < 16 - (k + 1); omega⟩
  · have e : 2 ^ c.length - 1 = k := by omega
    rw [e]
    (conv => whnf)
    exact ⟨_, rfl, Fresh.ofRow E O hr⟩

theorem impl_WitnessOf (h : Heap) (x : H0) (c : List (List Int)) (hx : Rows h x c) (hic : isCartan c = true) :
    HCalls dm Tryz.prog 134 [.s x] h (fun r h' => ∃ (y : H0) (l : List Int), r = .s y ∧ Ext h h' ∧ Ints h' y l ∧ (l.length = 0 ↔ allPos c = true)) := by
  have hC := (isCartan_iff c).1 hic
  have h4 := hC.le
  have h16 := pow_le16 (n := c.length) (by omega)
  refine calls_of_hFun (m := 0) kd_ok mixed Tryz.func134 rfl (by kernel_rfl) rfl rfl (of_decide_eq_true rfl) ?_; unfold hFun; (conv => whnf)
  refine (impl_PrincipalMinors _ _ c hx hic).mono ?_
  rintro r h1 ⟨y1, rfl, f1⟩
  have hy := f1.ints
  have hml := minorsTo_len c (2 ^ c.length - 1)
  (conv => whnf)
  refine ⟨rfl, hy.len ?_⟩
  rw [hml]
  (conv => whnf)
  refine HLoop.intro [8] [9, 10, 11, 12, 3, 4, 13, 14, 15, 16, 17, 2, 18, 8] (by kernel_rfl) (by kernel_rfl) (fun vs h' => ∃ k : Nat, vs = [I k] ∧ k ≤ 2 ^ c.length - 1 ∧ h' = h1 ∧ ∀ t, t < k → 0 < dt c (t + 1)) (fun vs _ => 16 - natAt vs 0) ⟨0, rfl, by omega, rfl, fun t ht => by omega⟩ ?_
  rintro vs h' ⟨k, rfl, hk, hh, hb⟩
  subst h'
  (conv => whnf)
  refine HIf.dec (fun hlt => ?_) (fun hge => ?_)
  · have hg := minorsTo_get (c := c) (k := k) (n := 2 ^ c.length - 1) (by omega)
    (conv => whnf)
    refine ⟨rfl, Ints.idxN hy (by omega) (fun p hp => ?_)⟩
    rw [hg] at hp
    (conv => whnf)
    refine ⟨rfl, hp.load ?_⟩
    (conv => whnf)
    refine HIf.dec (fun hle => ?_) (fun hpos => ?_)
    · (conv => whnf)
      refine HArith.to (e' := ((k + 1 : Nat) : Int)) (by omega) (by omega) (by omega) ?_
      (conv => whnf)
      refine (impl_setOf _ (k + 1) (by omega)).mono ?_
      rintro v h2 ⟨y2, rfl, g2⟩
      have f1' := (setB_fits c.length (by omega) (k + 1) (by omega) (by omega)).1
      have hap := allPos_not (c := c) (k := k) (by omega) hle
      (conv => whnf)
      exact ⟨_, _, rfl, f1.1.trans g2.1, g2.ints, ⟨fun h => absurd h f1', fun h => by rw [hap] at h; cases h⟩⟩
    · (conv => whnf)
      refine HArith.fits (by omega) (by omega) ?_
      (conv => whnf)
      refine ⟨⟨k + 1, rfl, by omega, rfl, fun t ht => ?_⟩, by show 16 - (k + 1) < 16 - k; omega⟩
      by_cases e : t = k
      · subst e; omega
      · exact hb t (by omega)
  · have hap := allPos_of (c := c) (fun t ht => hb t (by omega))
    (conv => whnf)
    refine HLit.empty ?_
    (conv => whnf)
    exact ⟨_, [], rfl, f1.1.trans (Ext.push _ _), (OwnR.push _ []).ints, ⟨fun _ => hap, fun _ => rfl⟩⟩

theorem impl_IsFinite (h : Heap) (x : H0) (c : List (List Int)) (hx : Rows h x c) (hcl : c.length ≤ 1048576) :
    HCalls dm Tryz.prog 77 [.s x] h (fun r h' => r = B (isFinite c) ∧ Ext h h') := by
  refine calls_of_hFun (m := 0) kd_ok mixed Tryz.func77 rfl (by kernel_rfl) rfl rfl (of_decide_eq_true rfl) ?_; unfold hFun; (conv => whnf)
  refine (impl_IsCartan _ _ _ hx (by omega)).mono ?_
  rintro r h1 ⟨rfl, hh⟩
  subst h1
  (conv => whnf)
  cases hic : isCartan c
  · (repeat (first | (refine HIf.no ?_; conv => whnf)))
    exact ⟨bEq (isFinite_off hic), Ext.refl _⟩
  refine HIf.yes ?_
  (conv => whnf)
  refine HIf.yes ?_
  (conv => whnf)
  refine (impl_WitnessOf _ _ c hx hic).mono ?_
  rintro r h1 ⟨y, l, rfl, E, hl, hiff⟩
  have hfin := isFinite_on hic hiff
  (conv => whnf)
  (repeat (first | (refine HIf.yes ?_; conv => whnf) | (refine ⟨rfl, hl.len ?_⟩; conv => whnf)))
  exact ⟨bEq hfin.symm, E⟩

theorem spec_l4Sets (h : Heap) (n : Nat) (hn : n < 5) :
    HCalls dm Tryz.prog 177 [I n] h (fun r h' => ∃ y, r = .s y ∧ Ext h h' ∧ OwnM h.length h'.length h' y (setsTo (2 ^ n - 1))) := by
  have h16 := pow_le16 hn
  refine calls_of_hFun (m := 0) kd_ok mixed Tryz.func177 rfl (by kernel_rfl) rfl rfl (of_decide_eq_true rfl) ?_; unfold hFun; (conv => whnf)
  refine HLit.empty ?_
  (conv => whnf)
  refine HLoop.intro [4, 3] [8, 9, 10, 11, 14, 5, 6, 15, 16, 17, 20, 21, 22, 23, 24, 25, 26, 27, 28, 5, 18, 19, 6, 29, 30, 31, 32, 3, 12, 13, 4] (by kernel_rfl) (by kernel_rfl) (fun vs h' => ∃ (k : Nat) (z : H0), vs = [I ((k + 1 : Nat) : Int), .s z] ∧ k + 1 ≤ 2 ^ n ∧ Ext h h' ∧ OwnM h.length h'.length h' z (setsTo k)) (fun vs _ => 16 - natAt vs 0) ⟨0, _, rfl, Nat.one_le_two_pow, Ext.push _ _, OwnM.none h⟩ ?_
  rintro vs h' ⟨k, z, rfl, hk, E, OM⟩
  have hsl := setsTo_len k
  (conv => whnf)
  refine HShl.one hn ?_
  (conv => whnf)
  refine HIf.dec (fun hlt => ?_) (fun hge => ?_)
  · have Ep := Ext.push h' [Row.own []]
    (conv => whnf)
    refine HLit.empty ?_
    (conv => whnf)
    refine HLoop.intro [6, 5] [15, 16, 17, 20, 21, 22, 23, 24, 25, 26, 27, 28, 5, 18, 19, 6] (by kernel_rfl) (by kernel_rfl) (fun vs h2 => ∃ (b : Nat) (y : H0) (r : Nat), vs = [I b, .s y] ∧ b ≤ n ∧ Ext h' h2 ∧ h'.length ≤ r ∧ OwnR r h2 y (setTo (k + 1) b)) (fun vs _ => n - natAt vs 0) ⟨0, _, h'.length, rfl, by omega, Ep, Nat.le_refl _, OwnR.push h' []⟩ ?_
    rintro vs h2 ⟨b, y, r, rfl, hb, E2, hr, O⟩
    have htl := setTo_len (k + 1) b
    have hE2 := E2.1
    have hdl : (k + 1) / 2 ^ b ≤ k + 1 := Nat.div_le_self _ _
    (conv => whnf)
    refine HIf.dec (fun hltb => ?_) (fun hgeb => ?_)
    · (conv => whnf)
      refine HShr.bits (by omega) (by omega) ?_
      (conv => whnf)
      refine HAnd.one (by omega) ?_
      (conv => whnf)
      rw [bit_one]
      cases hbt : bit (k + 1) b
      · rw [← setTo_out hbt] at O
        refine HIf.no ?_
        (conv => whnf)
        refine HArith.fits (by omega) (by omega) ?_
        (conv => whnf)
        exact ⟨⟨b + 1, y, r, rfl, by omega, E2, hr, O⟩, by show n - (b + 1) < n - b; omega⟩
      · refine HIf.yes ?_
        (conv => whnf)
        refine HLit.one ?_
        (conv => whnf)
        refine ⟨rfl, rfl, HApp.snocR O (by omega) (fun h3 r3 y3 B3 hr3 O3 => ?_)⟩
        rw [← setTo_in hbt] at O3
        (conv => whnf)
        refine HArith.fits (by omega) (by omega) ?_
        (conv => whnf)
        exact ⟨⟨b + 1, y3, r3, rfl, by omega, E2.but B3 hr, by omega, O3⟩, by show n - (b + 1) < n - b; omega⟩
    · have e : b = n := by omega
      rw [e, setTo_all n hn (k + 1) (by omega)] at O
      have F := O.own hr
      (conv => whnf)
      refine HLit.row F.one ?_
      (conv => whnf)
      refine ⟨rfl, rfl, HApp.snocM E OM E2 F (by omega) (fun h5 y5 E5 O5 => ?_)⟩
      rw [← setsTo_succ] at O5
      (conv => whnf)
      refine HArith.to (e' := ((k + 1 + 1 : Nat) : Int)) (by omega) (by omega) (by omega) ?_
      (conv => whnf)
      exact ⟨⟨k + 1, y5, rfl, by omega, E5, O5⟩, by show 16 - (k + 1 + 1) < 16 - (k + 1); omega⟩
  · have e : 2 ^ n - 1 = k := by omega
    rw [e]
    (conv => whnf)
    exact ⟨_, rfl, E, OM⟩

theorem spec_l3Set (h : Heap) (x0 : H0) (c : List (List Int)) (x1 : H0) (o : List Int) (hx0 : Rows h x0 c) (hx1 : Ints h x1 o) (hic : isCartan c = true) (ho : ∀ k, k < o.length → 0 ≤ o.getD k 0 ∧ o.getD k 0 < c.length) (hs : ∀ k, k < o.length → k = 0 ∨ o.getD (k - 1) 0 < o.getD k 0) (hol : o.length ≤ 4) :
    HCalls dm Tryz.prog 180 [.s x0, .s x1] h (fun r h' => r = B true ∧ h' = h) := by
  have hC := (isCartan_iff c).1 hic
  have h4 := hC.le
  refine calls_of_hFun (m := 0) kd_ok mixed Tryz.func180 rfl (by kernel_rfl) rfl rfl (of_decide_eq_true rfl) ?_; unfold hFun; (conv => whnf)
  refine HLoop.intro [5] [6, 7, 8, 9, 12, 13, 14, 15, 16, 17, 18, 19, 20, 21, 22, 23, 24, 25, 26, 27, 28, 29, 30, 31, 32, 33, 34, 35, 36, 4, 10, 11, 5] (by kernel_rfl) (by kernel_rfl) (fun vs h' => ∃ k : Nat, vs = [I k] ∧ k ≤ o.length ∧ h' = h) (fun vs _ => o.length - natAt vs 0) ⟨0, rfl, by omega, rfl⟩ ?_
  rintro vs h' ⟨k, rfl, hk, hh⟩
  subst h'
  (conv => whnf)
  refine ⟨rfl, hx1.len ?_⟩
  (conv => whnf)
  refine HIf.dec (fun hlt => ?_) (fun hge => ?_)
  · have hok := ho k (by omega)
    have hsk := hs k (by omega)
    have hpt : isPoint c (o.getD k 0) = true := by simp only [isPoint, inRange, Bool.and_eq_true, decide_eq_true_eq]; omega
    have idx1 : ∀ {K : HV → Prop}, (∀ p, At h p (ci (o.getD k 0)) → K (.s p)) → HIdx h (.s x1) (I k) K := fun hK => Ints.idxN hx1 (by omega) hK
    (conv => whnf)
    refine Or.inl (And.intro (show Region.lexB _ _ = true by kernel_rfl) ?_); (conv => whnf)
    refine ⟨rfl, idx1 (fun p hp => ?_)⟩
    (conv => whnf)
    refine ⟨rfl, hp.load ?_⟩
    (conv => whnf)
    refine ⟨rfl, hx0.len ?_⟩
    (conv => whnf)
    refine HArith.fits (by omega) (by omega) ?_
    (conv => whnf)
    refine HCallQ.of (.bool (decide (0 ≤ o.getD k 0) && decide (o.getD k 0 ≤ (c.length : Int) - 1))) (spec_l1In _ (o.getD k 0) 0 ((c.length : Int) - 1)) (fun x h' hR => hR.1) ?_
    rw [isPoint_l1, hpt]
    (conv => whnf)
    by_cases hk0 : (k : Int) > 0
    · have idx2 : ∀ {K : HV → Prop}, (∀ p, At h p (ci (o.getD (k - 1) 0)) → K (.s p)) → HIdx h (.s x1) (I ((k - 1 : Nat) : Int)) K := fun hK => Ints.idxN hx1 (by omega) hK
      have hng : ¬ (o.getD (k - 1) 0 ≥ o.getD k 0) := by omega
      (repeat (first | (refine HIf.yes ?_; conv => whnf) | (refine HIf.no ?_; conv => whnf) | (refine HIf.decT hk0 ?_; conv => whnf) | (refine HArith.to (e' := ((k - 1 : Nat) : Int)) (by omega) (by omega) (by omega) ?_; conv => whnf) | (refine ⟨rfl, idx2 (fun p hp => ?_)⟩; conv => whnf) | (refine ⟨rfl, idx1 (fun p hp => ?_)⟩; conv => whnf) | (refine ⟨rfl, At.load (by assumption) ?_⟩; conv => whnf)))
      refine HIf.decF hng ?_
      (conv => whnf)
      refine HArith.fits (by omega) (by omega) ?_
      (conv => whnf)
      exact ⟨⟨k + 1, rfl, by omega, rfl⟩, by show o.length - (k + 1) < o.length - k; omega⟩
    · (repeat (first | (refine HIf.yes ?_; conv => whnf) | (refine HIf.no ?_; conv => whnf) | (refine HIf.decF hk0 ?_; conv => whnf)))
      refine HArith.fits (by omega) (by omega) ?_
      (conv => whnf)
      exact ⟨⟨k + 1, rfl, by omega, rfl⟩, by show o.length - (k + 1) < o.length - k; omega⟩
  · (conv => whnf)
    refine (spec_IsCartan _ _ _ hx0 (by omega)).mono ?_
    rintro r h1 ⟨rfl, hh⟩
    subst h1
    rw [hic]
    (conv => whnf)
    exact ⟨rfl, rfl⟩

theorem spec_SubCartan (h : Heap) (x0 : H0) (c : List (List Int)) (x1 : H0) (o : List Int) (hx0 : Rows h x0 c) (hx1 : Ints h x1 o) (hic : isCartan c = true) (ho : ∀ k, k < o.length → 0 ≤ o.getD k 0 ∧ o.getD k 0 < c.length) (hs : ∀ k, k < o.length → k = 0 ∨ o.getD (k - 1) 0 < o.getD k 0) (hol : o.length ≤ 4) (hne : o.length ≠ 0) :
    HCalls dm Tryz.prog 132 [.s x0, .s x1] h (fun r h' => ∃ y, r = T2 y true ∧ Ext h h' ∧ OwnM h.length h'.length h' y (pick c o)) := by
  have hC := (isCartan_iff c).1 hic
  have h4 := hC.le
  have E0 := Ext.push h [Row.own []]
  have hx10 := hx1.ext E0
  refine calls_of_hFun (m := 0) kd_ok mixed Tryz.func132 rfl (by kernel_rfl) rfl rfl (of_decide_eq_true rfl) ?_; unfold hFun; (conv => whnf)
  refine HLit.empty ?_
  (conv => whnf)
  refine (spec_l3Set _ _ c _ o (hx0.ext E0) hx10 hic ho hs hol).mono ?_
  rintro r h1 ⟨rfl, hh⟩
  subst h1
  have hz : ¬ ((o.length : Int) = 0) := by omega
  (conv => whnf)
  (repeat (first | (refine HIf.yes ?_; conv => whnf) | (refine HIf.no ?_; conv => whnf) | (refine ⟨rfl, hx10.len ?_⟩; conv => whnf)))
  refine HIf.beqF hz ?_
  (conv => whnf)
  refine HLoop.intro [7, 6] [21, 22, 23, 24, 27, 8, 9, 28, 29, 30, 31, 34, 35, 36, 37, 38, 39, 40, 41, 42, 43, 44, 45, 46, 47, 48, 49, 8, 32, 33, 9, 50, 51, 52, 53, 6, 25, 26, 7] (by kernel_rfl) (by kernel_rfl) (fun vs h' => ∃ (a : Nat) (z : H0), vs = [I a, .s z] ∧ a ≤ o.length ∧ Ext h h' ∧ OwnM h.length h'.length h' z (pickTo c o a)) (fun vs _ => o.length - natAt vs 0) ⟨0, _, rfl, by omega, Ext.push _ _, OwnM.none h⟩ ?_
  rintro vs h' ⟨a, z, rfl, ha, E, OM⟩
  have hpl := pickTo_len c o a
  have hx1 := hx1.ext E
  (conv => whnf)
  refine ⟨rfl, hx1.len ?_⟩
  (conv => whnf)
  refine HIf.dec (fun hlt => ?_) (fun hge => ?_)
  · have hoa := ho a (by omega)
    obtain ⟨i, hi⟩ : ∃ i : Nat, o.getD a 0 = (i : Int) := ⟨(o.getD a 0).toNat, by omega⟩
    rw [hi] at hoa
    have hir := hC.row i (by omega)
    have Ep := Ext.push h' [Row.own []]
    (conv => whnf)
    refine HLit.empty ?_
    (conv => whnf)
    refine HLoop.intro [9, 8] [28, 29, 30, 31, 34, 35, 36, 37, 38, 39, 40, 41, 42, 43, 44, 45, 46, 47, 48, 49, 8, 32, 33, 9] (by kernel_rfl) (by kernel_rfl) (fun vs h2 => ∃ (b : Nat) (y : H0) (r : Nat), vs = [I b, .s y] ∧ b ≤ o.length ∧ Ext h' h2 ∧ h'.length ≤ r ∧ OwnR r h2 y (pickRow c o i b)) (fun vs _ => o.length - natAt vs 0) ⟨0, _, h'.length, rfl, by omega, Ep, Nat.le_refl _, OwnR.push h' []⟩ ?_
    rintro vs h2 ⟨b, y, r, rfl, hb, E2, hr, O⟩
    have hrl := pickRow_len c o i b
    have hE2 := E2.1
    have hx12 := hx1.ext E2
    (conv => whnf)
    refine ⟨rfl, hx12.len ?_⟩
    (conv => whnf)
    refine HIf.dec (fun hltb => ?_) (fun hgeb => ?_)
    · have hob := ho b (by omega)
      obtain ⟨j, hj⟩ : ∃ j : Nat, o.getD b 0 = (j : Int) := ⟨(o.getD b 0).toNat, by omega⟩
      rw [hj] at hob
      have hx02 := (hx0.ext E).ext E2
      (conv => whnf)
      refine Or.inr (Or.inr (Or.inl (Exists.intro 15 (Exists.intro [0, 1, 2, 3, 4, 5, 6, 7, 8, 9, 10, 11, 12, 13] (Exists.intro [14, 15, 16] (And.intro (show heldOk _ _ _ _ = true by kernel_rfl) ?_)))))); (conv => whnf)
      refine ⟨rfl, Ints.idxN hx12 (by omega) (fun p hp => ?_)⟩
      rw [hi] at hp
      (conv => whnf)
      refine ⟨rfl, hp.load ?_⟩
      (conv => whnf)
      refine ⟨rfl, Rows.idxN hx02 (by omega) (fun p3 y3 hp3 hy3 => ?_)⟩
      (conv => whnf)
      refine ⟨rfl, hp3.load ?_⟩
      (conv => whnf)
      refine ⟨rfl, Ints.idxN hx12 (by omega) (fun p2 hp2 => ?_)⟩
      rw [hj] at hp2
      (conv => whnf)
      refine ⟨rfl, hp2.load ?_⟩
      (conv => whnf)
      refine ⟨rfl, Ints.idxN hy3 (by omega) (fun p4 hp4 => ?_)⟩
      (conv => whnf)
      refine ⟨rfl, hp4.load ?_⟩
      rw [ent_eq]
      (conv => whnf)
      refine HLit.one ?_
      (conv => whnf)
      refine ⟨rfl, rfl, HApp.snocR O (by omega) (fun h3 r3 y5 B3 hr3 O3 => ?_)⟩
      have es : pickRow c o i (b + 1) = pickRow c o i b ++ [ent c i j] := by rw [pickRow_succ, hj]; rfl
      rw [← es] at O3
      (conv => whnf)
      refine HArith.fits (by omega) (by omega) ?_
      (conv => whnf)
      exact ⟨⟨b + 1, y5, r3, rfl, by omega, E2.but B3 hr, by omega, O3⟩, by show o.length - (b + 1) < o.length - b; omega⟩
    · have e : b = o.length := by omega
      subst e
      have er : pickTo c o (a + 1) = pickTo c o a ++ [pickRow c o i o.length] := by rw [pickTo_succ, hi]; rfl
      have F := O.own hr
      (conv => whnf)
      refine HLit.row F.one ?_
      (conv => whnf)
      refine ⟨rfl, rfl, HApp.snocM E OM E2 F (by omega) (fun h5 y5 E5 O5 => ?_)⟩
      rw [← er] at O5
      (conv => whnf)
      refine HArith.fits (by omega) (by omega) ?_
      (conv => whnf)
      exact ⟨⟨a + 1, y5, rfl, by omega, E5, O5⟩, by show o.length - (a + 1) < o.length - a; omega⟩
  · have e : a = o.length := by omega
    subst e
    (conv => whnf)
    exact ⟨_, rfl, E, OM⟩

theorem spec_WitnessOf (h : Heap) (x : H0) (c : List (List Int)) (hx : Rows h x c) (hic : isCartan c = true) :
    HCalls dm Tryz.prog 130 [.s x] h (fun r h' => ∃ (y : H0) (l : List Int), r = .s y ∧ Ext h h' ∧ Ints h' y l ∧ (l.length = 0 ↔ allPos c = true)) := by
  have hC := (isCartan_iff c).1 hic
  have h4 := hC.le
  have h16 := pow_le16 (n := c.length) (by omega)
  refine calls_of_hFun (m := 0) kd_ok mixed Tryz.func130 rfl (by kernel_rfl) rfl rfl (of_decide_eq_true rfl) ?_; unfold hFun; (conv => whnf)
  refine (spec_IsCartan _ _ _ hx (by omega)).mono ?_
  rintro r h1 ⟨rfl, hh⟩
  subst h1
  rw [hic]
  (conv => whnf)
  refine HIf.no ?_
  (conv => whnf)
  refine ⟨rfl, hx.len ?_⟩
  (conv => whnf)
  refine (spec_l4Sets _ c.length (by omega)).mono ?_
  rintro r h1 ⟨y1, rfl, E1, OM⟩
  have hsl := setsTo_len (2 ^ c.length - 1)
  (conv => whnf)
  refine HLoop.intro [4] [14, 15, 16, 17, 21, 22, 23, 24, 25, 26, 20, 27, 28, 5, 6, 29, 30, 31, 32, 33, 34, 35, 2, 18, 19, 4] (by kernel_rfl) (by kernel_rfl) (fun vs h' => ∃ k : Nat, vs = [I k] ∧ k ≤ 2 ^ c.length - 1 ∧ Ext h1 h' ∧ ∀ t, t < k → 0 < dt c (t + 1)) (fun vs _ => 16 - natAt vs 0) ⟨0, rfl, by omega, Ext.refl _, fun t ht => by omega⟩ ?_
  rintro vs h' ⟨k, rfl, hk, E2, hb⟩
  have R := (OM.ext E2).rows
  have E := E1.trans E2
  (conv => whnf)
  refine ⟨rfl, R.len ?_⟩
  rw [hsl]
  (conv => whnf)
  refine HIf.dec (fun hlt => ?_) (fun hge => ?_)
  · have hg := setsTo_get (k := k) (n := 2 ^ c.length - 1) (by omega)
    obtain ⟨f1, f2, f3⟩ := setB_fits c.length (by omega) (k + 1) (by omega) (by omega)
    have hs4 := set_len4 (k + 1)
    (conv => whnf)
    refine ⟨rfl, Rows.idxN R (by omega) (fun p z hp hz => ?_)⟩
    rw [hg] at hz
    (conv => whnf)
    refine ⟨rfl, hp.load ?_⟩
    (conv => whnf)
    refine (spec_SubCartan _ _ c _ _ (hx.ext E) hz hic f2 f3 hs4 f1).mono ?_
    rintro v h3 ⟨y3, rfl, E3, O3⟩
    (conv => whnf)
    refine (spec_l4Det _ hs4 _ _ _ O3.rows (pick_sq hC f2)).mono ?_
    rintro v h5 ⟨rfl, E5⟩
    have E35 := E3.trans E5
    have R5 := R.ext E35
    have ed : detZ (setB (k + 1)).length (pick c (setB (k + 1))) = dt c (k + 1) := rfl
    rw [ed]
    (conv => whnf)
    refine HIf.dec (fun hle => ?_) (fun hpos => ?_)
    · have hap := allPos_not (c := c) (k := k) (by omega) hle
      (conv => whnf)
      refine ⟨rfl, Rows.idxN R5 (by omega) (fun p7 z7 hp7 hz7 => ?_)⟩
      rw [hg] at hz7
      (conv => whnf)
      refine ⟨rfl, hp7.load ?_⟩
      (conv => whnf)
      exact ⟨_, _, rfl, E.trans E35, hz7, ⟨fun h => absurd h f1, fun h => by rw [hap] at h; cases h⟩⟩
    · (conv => whnf)
      refine HArith.fits (by omega) (by omega) ?_
      (conv => whnf)
      refine ⟨⟨k + 1, rfl, by omega, E2.trans E35, fun t ht => ?_⟩, by show 16 - (k + 1) < 16 - k; omega⟩
      by_cases e : t = k
      · subst e; omega
      · exact hb t (by omega)
  · have hap := allPos_of (c := c) (fun t ht => hb t (by omega))
    (conv => whnf)
    refine HLit.empty ?_
    (conv => whnf)
    exact ⟨_, [], rfl, E.trans (Ext.push _ _), (OwnR.push _ []).ints, ⟨fun _ => hap, fun _ => rfl⟩⟩

theorem spec_IsFinite (h : Heap) (x : H0) (c : List (List Int)) (hx : Rows h x c) (hcl : c.length ≤ 1048576) :
    HCalls dm Tryz.prog 73 [.s x] h (fun r h' => r = B (isFinite c) ∧ Ext h h') := by
  refine calls_of_hFun (m := 0) kd_ok mixed Tryz.func73 rfl (by kernel_rfl) rfl rfl (of_decide_eq_true rfl) ?_; unfold hFun; (conv => whnf)
  refine (spec_IsCartan _ _ _ hx (by omega)).mono ?_
  rintro r h1 ⟨rfl, hh⟩
  subst h1
  (conv => whnf)
  cases hic : isCartan c
  · (repeat (first | (refine HIf.no ?_; conv => whnf)))
    exact ⟨bEq (isFinite_off hic), Ext.refl _⟩
  refine HIf.yes ?_
  (conv => whnf)
  refine HIf.yes ?_
  (conv => whnf)
  refine (spec_WitnessOf _ _ c hx hic).mono ?_
  rintro r h1 ⟨y, l, rfl, E, hl, hiff⟩
  have hfin := isFinite_on hic hiff
  (conv => whnf)
  (repeat (first | (refine HIf.yes ?_; conv => whnf) | (refine ⟨rfl, hl.len ?_⟩; conv => whnf)))
  exact ⟨bEq hfin.symm, E⟩

end Go.Proofs.YtgliajcgcbnemaaGreatDoor.Hx

namespace Go.Proofs.YtgliajcgcbnemaaGreatDoor.Hx
open Go.RowKit
variable {dm : Bool}

def powTo (c : List (List Int)) (w : List Int) : Nat → Option (List Int)
  | 0 => some []
  | k + 1 => match powTo c w k with
    | none => none
    | some y => if mulOk c y w then some (mul c y w) else none
def in60 (k : Int) : Bool := decide (0 ≤ k) && decide (k ≤ 60)
def powOk (c : List (List Int)) (w : List Int) (k : Int) : Bool := isWord c w && in60 k && (powTo c w k.toNat).isSome
def pow (c : List (List Int)) (w : List Int) (k : Int) : List Int := if powOk c w k then (powTo c w k.toNat).getD [] else []

def exAt (c : List (List Int)) (w : List Int) (n : Int) (k : Nat) : Bool := decide (imageOf c (del w k) = imageOf c (n :: w))
def exIdx (c : List (List Int)) (w : List Int) (n : Int) : Int :=
  if isReduced c w && decide (n ∈ leftDescents c w) then
    match (List.range w.length).find? (exAt c w n) with
    | some k => k
    | none => -1
  else -1
/-- Letters left out at told places, two by two. -/
def replay : List Int → List Int → Option (List Int)
  | x, i :: j :: l => if i < 0 ∨ j ≤ i ∨ (x.length : Int) ≤ j then none else replay (del (del x j) i) l
  | x, _ => some x
def repW (w l : List Int) : List Int := (replay w l).getD w
def repOk (w l : List Int) : Bool := (replay w l).isSome && ((l.length : Int).tmod 2 == 0)
/-- Pairs of letters left out, as often as f. -/
def red (c : List (List Int)) : Nat → List Int → List Int → List Int × List Int
  | 0, x, o => (x, o)
  | f + 1, x, o => if (delPair c x).2.2 then red c f (del (del x (delPair c x).2.1) (delPair c x).1) (o ++ [(delPair c x).1, (delPair c x).2.1]) else (x, o)
end Go.Proofs.YtgliajcgcbnemaaGreatDoor.Hx

namespace Go.Proofs.YtgliajcgcbnemaaGreatDoor.Hx
open Go.RowKit
variable {dm : Bool}

theorem mem_take_snoc {l : List Int} {n : Int} {k : Nat} (hk : k < l.length) (h : n ∉ l.take k) (h2 : l.getD k 0 ≠ n) : n ∉ l.take (k + 1) := by
  rw [take_snoc l hk]
  simp only [List.mem_append, List.mem_singleton, not_or]
  exact ⟨h, fun e => h2 e.symm⟩
theorem mem_at {l : List Int} {n : Int} {k : Nat} (hk : k < l.length) (h2 : l.getD k 0 = n) : n ∈ l := by
  have : l[k] = n := by simpa [List.getD, hk] using h2
  rw [← this]
  exact List.getElem_mem hk
theorem lib_Index (h : Heap) (x : H0) (l : List Int) (n : Int) (hx : Ints h x l) (hl : l.length ≤ 2199023255552) :
    HCalls dm Tryz.prog 280 [.s x, I n] h (fun r h' => ∃ k : Int, r = I k ∧ (0 ≤ k ↔ n ∈ l) ∧ h' = h) := by
  refine calls_of_hFun (m := 0) kd_ok mixed Tryz.func280 rfl (by kernel_rfl) rfl rfl (of_decide_eq_true rfl) ?_; unfold hFun; (conv => whnf)
  refine ⟨rfl, hx.len ?_⟩
  (conv => whnf)
  refine HLoop.intro [8] [9, 10, 5, 11, 12, 13, 14, 15, 16, 17, 4, 18, 8] (by kernel_rfl) (by kernel_rfl) (fun vs h' => ∃ k : Nat, vs = [I k] ∧ k ≤ l.length ∧ h' = h ∧ n ∉ l.take k) (fun vs _ => l.length - natAt vs 0) ⟨0, rfl, by omega, rfl, by simp⟩ ?_
  rintro vs h' ⟨k, rfl, hk, hh, hb⟩
  subst h'
  (conv => whnf)
  refine HIf.dec (fun hlt => ?_) (fun hge => ?_)
  · (conv => whnf)
    refine ⟨rfl, Ints.idxN hx (by omega) (fun p hp => ?_)⟩
    (conv => whnf)
    refine ⟨rfl, hp.load ?_⟩
    (conv => whnf)
    refine HIf.beq (fun he => ?_) (fun hne => ?_)
    · (conv => whnf)
      refine ⟨_, rfl, ⟨fun _ => ?_, fun _ => by omega⟩, rfl⟩
      first | exact mem_at (by omega) he | exact mem_at (by omega) he.symm
    · (conv => whnf)
      refine HArith.fits (by omega) (by omega) ?_
      (conv => whnf)
      refine ⟨⟨k + 1, rfl, by omega, rfl, ?_⟩, by show l.length - (k + 1) < l.length - k; omega⟩
      first | exact mem_take_snoc (by omega) hb hne | exact mem_take_snoc (by omega) hb (Ne.symm hne)
  · have e : k = l.length := by omega
    subst e
    rw [List.take_length] at hb
    (conv => whnf)
    exact ⟨_, rfl, ⟨fun h => by omega, fun h => absurd h hb⟩, rfl⟩

theorem lib_Contains (h : Heap) (x : H0) (l : List Int) (n : Int) (hx : Ints h x l) (hl : l.length ≤ 2199023255552) :
    HCalls dm Tryz.prog 263 [.s x, I n] h (fun r h' => r = B (decide (n ∈ l)) ∧ h' = h) := by
  refine calls_of_hFun (m := 0) kd_ok mixed Tryz.func263 rfl (by kernel_rfl) rfl rfl (of_decide_eq_true rfl) ?_; unfold hFun; (conv => whnf)
  refine (lib_Index _ _ l n hx hl).mono ?_
  rintro r h' ⟨k, rfl, hk, rfl⟩
  (conv => whnf)
  refine ⟨bEq ?_, rfl⟩
  by_cases h0 : n ∈ l
  · have := hk.2 h0
    simp [h0, this]
  · have : ¬ 0 ≤ k := fun h => h0 (hk.1 h)
    simp [h0]
    omega

theorem spec_l3Has (h : Heap) (x : H0) (l : List Int) (n : Int) (hx : Ints h x l) (hl : l.length ≤ 1048576) :
    HCalls dm Tryz.prog 248 [.s x, I n] h (fun r h' => r = B (decide (n ∈ l)) ∧ h' = h) := by
  refine calls_of_hFun (m := 0) kd_ok mixed Tryz.func248 rfl (by kernel_rfl) rfl rfl (of_decide_eq_true rfl) ?_; unfold hFun; (conv => whnf)
  refine HLoop.intro [5] [6, 7, 8, 9, 12, 13, 14, 15, 16, 17, 4, 10, 11, 5] (by kernel_rfl) (by kernel_rfl) (fun vs h' => ∃ k : Nat, vs = [I k] ∧ k ≤ l.length ∧ h' = h ∧ n ∉ l.take k) (fun vs _ => l.length - natAt vs 0) ⟨0, rfl, by omega, rfl, by simp⟩ ?_
  rintro vs h' ⟨k, rfl, hk, hh, hb⟩
  subst h'
  (conv => whnf)
  refine ⟨rfl, hx.len ?_⟩
  (conv => whnf)
  refine HIf.dec (fun hlt => ?_) (fun hge => ?_)
  · (conv => whnf)
    refine ⟨rfl, Ints.idxN hx (by omega) (fun p hp => ?_)⟩
    (conv => whnf)
    refine ⟨rfl, hp.load ?_⟩
    (conv => whnf)
    refine HIf.beq (fun he => ?_) (fun hne => ?_)
    · (conv => whnf)
      exact ⟨bEq (decide_eq_true (mem_at (by omega) he)), rfl⟩
    · (conv => whnf)
      refine HArith.fits (by omega) (by omega) ?_
      (conv => whnf)
      exact ⟨⟨k + 1, rfl, by omega, rfl, mem_take_snoc (by omega) hb hne⟩, by show l.length - (k + 1) < l.length - k; omega⟩
  · have e : k = l.length := by omega
    subst e
    rw [List.take_length] at hb
    (conv => whnf)
    exact ⟨bEq (decide_eq_false hb), rfl⟩

end Go.Proofs.YtgliajcgcbnemaaGreatDoor.Hx

namespace Go.Proofs.YtgliajcgcbnemaaGreatDoor.Hx

def altS (c : Nat → Nat → Int) (i j : Nat) : Nat → Pos → Pos
  | 0, v => v
  | m + 1, v => sr c i (altS c j i m v)

def bondP (p : Int) : Nat := if p = 0 then 2 else if p = 1 then 3 else if p = 2 then 4 else if p = 3 then 6 else 0

section
variable {N : Nat} {c : Nat → Nat → Int} {i j : Nat} {v : Pos}

theorem st_i (M : MatOk N c) (hi : i < N) (a b a' : Int) (h : a + a' = v i - b * c i j) : sr c i (cb c i j v a b) = cb c i j v a' b := by
  refine cb_i c i j v a b a' ?_
  show a' = a + (v i - a * c i i - b * c i j)
  rw [M.diag i hi]
  omega
theorem st_j (M : MatOk N c) (hj : j < N) (a b b' : Int) (h : b + b' = v j - a * c j i) : sr c j (cb c i j v a b) = cb c i j v a b' := by
  refine cb_j c i j v a b b' ?_
  show b' = b + (v j - a * c j i - b * c j j)
  rw [M.diag j hj]
  omega
theorem dn_i (M : MatOk N c) (hi : i < N) {k : Nat} {a b : Int} (a' : Int) (p : Play N c k (cb c i j v a b)) (h : a + a' = v i - b * c i j) (lt : a' < a) : ∃ m, k = m + 1 ∧ Play N c m (cb c i j v a' b) := by
  have e : cb c i j v a b i = a' - a := by
    show v i - a * c i i - b * c i j = a' - a
    rw [M.diag i hi]
    omega
  obtain ⟨m, hm, q⟩ := p.down M hi (by rw [e]; omega)
  rw [st_i M hi a b a' h] at q
  exact ⟨m, hm, q⟩
theorem dn_j (M : MatOk N c) (hj : j < N) {k : Nat} {a b : Int} (b' : Int) (p : Play N c k (cb c i j v a b)) (h : b + b' = v j - a * c j i) (lt : b' < b) : ∃ m, k = m + 1 ∧ Play N c m (cb c i j v a b') := by
  have e : cb c i j v a b j = b' - b := by
    show v j - a * c j i - b * c j j = b' - b
    rw [M.diag j hj]
    omega
  obtain ⟨m, hm, q⟩ := p.down M hj (by rw [e]; omega)
  rw [st_j M hj a b b' h] at q
  exact ⟨m, hm, q⟩

theorem fin_cases_of (M : MatOk N c) (hi : i < N) (hj : j < N) (hij : i ≠ j) :
    (c i j = 0 ∧ c j i = 0) ∨ (c i j = -1 ∧ c j i = -1) ∨ (c i j = -2 ∧ c j i = -1) ∨ (c i j = -1 ∧ c j i = -2) ∨ (c i j = -3 ∧ c j i = -1) ∨ (c i j = -1 ∧ c j i = -3) ∨ (c i j ≤ -2 ∧ c j i ≤ -2) := by
  have o1 := M.off i j hi hj hij
  have o2 := M.off j i hj hi (Ne.symm hij)
  have z1 := M.zero i j hi hj
  have z2 := M.zero j i hj hi
  omega

theorem bondP_inf (M : MatOk N c) (hi : i < N) (hj : j < N) (hij : i ≠ j) (h : c i j ≤ -2 ∧ c j i ≤ -2) : bondP (c i j * c j i) = 0 := by
  have o1 := M.off i j hi hj hij
  have o2 := M.off j i hj hi (Ne.symm hij)
  have e1 : c i j = -2 ∨ c i j = -3 := by omega
  have e2 : c j i = -2 ∨ c j i = -3 := by omega
  rcases e1 with e1 | e1 <;> rcases e2 with e2 | e2 <;> rw [e1, e2] <;> rfl

/-- Both rows of turns lead to the same place. -/
theorem alt_rel (M : MatOk N c) (hi : i < N) (hj : j < N) (hij : i ≠ j) (v : Pos) : altS c i j (bondP (c i j * c j i)) v = altS c j i (bondP (c i j * c j i)) v := by
  have s1 : ∀ a b a' : Int, a + a' = v i - b * c i j → sr c i (cb c i j v a b) = cb c i j v a' b := fun a b a' h => st_i M hi a b a' h
  have s2 : ∀ a b b' : Int, b + b' = v j - a * c j i → sr c j (cb c i j v a b) = cb c i j v a b' := fun a b b' h => st_j M hj a b b' h
  have t1 : sr c i v = cb c i j v (v i) 0 := sr_cb c i j v
  have t2 : sr c j v = cb c i j v 0 (v j) := sr_cb' c i j v
  rcases fin_cases_of M hi hj hij with ⟨e1, e2⟩ | ⟨e1, e2⟩ | ⟨e1, e2⟩ | ⟨e1, e2⟩ | ⟨e1, e2⟩ | ⟨e1, e2⟩ | h
  · rw [show bondP (c i j * c j i) = 2 by rw [e1, e2]; rfl]
    rw [e1] at s1
    rw [e2] at s2
    generalize v i = a at *
    generalize v j = b at *
    simp only [altS, t1, t2]
    rw [s1 0 b a (by omega), s2 a 0 b (by omega)]
  · rw [show bondP (c i j * c j i) = 3 by rw [e1, e2]; rfl]
    rw [e1] at s1
    rw [e2] at s2
    generalize v i = a at *
    generalize v j = b at *
    simp only [altS, t1, t2]
    rw [s2 a 0 (a + b) (by omega), s1 a (a + b) (a + b) (by omega), s1 0 b (a + b) (by omega), s2 (a + b) b (a + b) (by omega)]
  · rw [show bondP (c i j * c j i) = 4 by rw [e1, e2]; rfl]
    rw [e1] at s1
    rw [e2] at s2
    generalize v i = a at *
    generalize v j = b at *
    simp only [altS, t1, t2]
    rw [s1 0 b (a + 2 * b) (by omega), s2 (a + 2 * b) b (a + 2 * b) (by omega), s1 (a + 2 * b) (a + 2 * b) (2 * a + 2 * b) (by omega),
      s2 a 0 (a + b) (by omega), s1 a (a + b) (2 * a + 2 * b) (by omega), s2 (2 * a + 2 * b) (a + b) (a + 2 * b) (by omega)]
  · rw [show bondP (c i j * c j i) = 4 by rw [e1, e2]; rfl]
    rw [e1] at s1
    rw [e2] at s2
    generalize v i = a at *
    generalize v j = b at *
    simp only [altS, t1, t2]
    rw [s1 0 b (a + b) (by omega), s2 (a + b) b (2 * a + 2 * b) (by omega), s1 (a + b) (2 * a + 2 * b) (2 * a + b) (by omega),
      s2 a 0 (2 * a + b) (by omega), s1 a (2 * a + b) (2 * a + b) (by omega), s2 (2 * a + b) (2 * a + b) (2 * a + 2 * b) (by omega)]
  · rw [show bondP (c i j * c j i) = 6 by rw [e1, e2]; rfl]
    rw [e1] at s1
    rw [e2] at s2
    generalize v i = a at *
    generalize v j = b at *
    simp only [altS, t1, t2]
    rw [s1 0 b (a + 3 * b) (by omega), s2 (a + 3 * b) b (a + 3 * b) (by omega), s1 (a + 3 * b) (a + 3 * b) (3 * a + 6 * b) (by omega), s2 (3 * a + 6 * b) (a + 3 * b) (2 * a + 4 * b) (by omega), s1 (3 * a + 6 * b) (2 * a + 4 * b) (4 * a + 6 * b) (by omega),
      s2 a 0 (a + b) (by omega), s1 a (a + b) (3 * a + 3 * b) (by omega), s2 (3 * a + 3 * b) (a + b) (2 * a + 3 * b) (by omega), s1 (3 * a + 3 * b) (2 * a + 3 * b) (4 * a + 6 * b) (by omega), s2 (4 * a + 6 * b) (2 * a + 3 * b) (2 * a + 4 * b) (by omega)]
  · rw [show bondP (c i j * c j i) = 6 by rw [e1, e2]; rfl]
    rw [e1] at s1
    rw [e2] at s2
    generalize v i = a at *
    generalize v j = b at *
    simp only [altS, t1, t2]
    rw [s1 0 b (a + b) (by omega), s2 (a + b) b (3 * a + 3 * b) (by omega), s1 (a + b) (3 * a + 3 * b) (3 * a + 2 * b) (by omega), s2 (3 * a + 2 * b) (3 * a + 3 * b) (6 * a + 4 * b) (by omega), s1 (3 * a + 2 * b) (6 * a + 4 * b) (4 * a + 2 * b) (by omega),
      s2 a 0 (3 * a + b) (by omega), s1 a (3 * a + b) (3 * a + b) (by omega), s2 (3 * a + b) (3 * a + b) (6 * a + 3 * b) (by omega), s1 (3 * a + b) (6 * a + 3 * b) (4 * a + 2 * b) (by omega), s2 (4 * a + 2 * b) (6 * a + 3 * b) (6 * a + 4 * b) (by omega)]
  · rw [bondP_inf M hi hj hij h]
    rfl

/-- Back by the same turns. -/
def downS (c : Nat → Nat → Int) (i j : Nat) : Nat → Pos → Pos
  | 0, v => v
  | m + 1, v => downS c j i m (sr c i v)

theorem alt_down : ∀ (m i j : Nat), c i i = 2 → c j j = 2 → ∀ v, altS c i j m (downS c i j m v) = v
  | 0, _, _, _, _, _ => rfl
  | m + 1, i, j, di, dj, v => by
    show sr c i (altS c j i m (downS c j i m (sr c i v))) = v
    rw [alt_down m j i dj di, sr_sr di]

/-- Two descents: the element begins with either row of turns, and there is a bond. -/
theorem play_two (M : MatOk N c) (hi : i < N) (hj : j < N) (hij : i ≠ j) {n : Nat} (pp : Play N c n v) (ha : v i < 0) (hb : v j < 0) :
    2 ≤ bondP (c i j * c j i) ∧ ∃ k u, n = k + bondP (c i j * c j i) ∧ Play N c k u ∧ v = altS c i j (bondP (c i j * c j i)) u ∧ v = altS c j i (bondP (c i j * c j i)) u := by
  have fin : ∀ (m : Nat), bondP (c i j * c j i) = m → 2 ≤ m → (∃ k, n = k + m ∧ Play N c k (downS c i j m v)) →
      2 ≤ bondP (c i j * c j i) ∧ ∃ k u, n = k + bondP (c i j * c j i) ∧ Play N c k u ∧ v = altS c i j (bondP (c i j * c j i)) u ∧ v = altS c j i (bondP (c i j * c j i)) u := by
    rintro m rfl h2 ⟨k, hk, q⟩
    have e := alt_down (c := c) (bondP (c i j * c j i)) i j (M.diag i hi) (M.diag j hj) v
    exact ⟨h2, k, _, hk, q, e.symm, by rw [← alt_rel M hi hj hij]; exact e.symm⟩
  have p0 : Play N c n (cb c i j v 0 0) := by rw [cb_none]; exact pp
  have s1 : ∀ a b a' : Int, a + a' = v i - b * c i j → sr c i (cb c i j v a b) = cb c i j v a' b := fun a b a' h => st_i M hi a b a' h
  have s2 : ∀ a b b' : Int, b + b' = v j - a * c j i → sr c j (cb c i j v a b) = cb c i j v a b' := fun a b b' h => st_j M hj a b b' h
  have d1 : ∀ {k : Nat} {a b : Int} (a' : Int), Play N c k (cb c i j v a b) → a + a' = v i - b * c i j → a' < a → ∃ m, k = m + 1 ∧ Play N c m (cb c i j v a' b) := fun a' q h lt => dn_i M hi a' q h lt
  have d2 : ∀ {k : Nat} {a b : Int} (b' : Int), Play N c k (cb c i j v a b) → b + b' = v j - a * c j i → b' < b → ∃ m, k = m + 1 ∧ Play N c m (cb c i j v a b') := fun b' q h lt => dn_j M hj b' q h lt
  have t1 : sr c i v = cb c i j v (v i) 0 := sr_cb c i j v
  rcases fin_cases_of M hi hj hij with ⟨e1, e2⟩ | ⟨e1, e2⟩ | ⟨e1, e2⟩ | ⟨e1, e2⟩ | ⟨e1, e2⟩ | ⟨e1, e2⟩ | h
  · refine fin 2 (by rw [e1, e2]; rfl) (by omega) ?_
    rw [e1] at s1 d1
    rw [e2] at s2 d2
    generalize v i = a at *
    generalize v j = b at *
    simp only [downS, t1]
    rw [s2 a 0 b (by omega)]
    obtain ⟨k1, m1, p⟩ := d1 a p0 (by omega) (by omega)
    obtain ⟨k2, m2, p⟩ := d2 b p (by omega) (by omega)
    exact ⟨k2, by omega, p⟩
  · refine fin 3 (by rw [e1, e2]; rfl) (by omega) ?_
    rw [e1] at s1 d1
    rw [e2] at s2 d2
    generalize v i = a at *
    generalize v j = b at *
    simp only [downS, t1]
    rw [s2 a 0 (a + b) (by omega), s1 a (a + b) (a + b) (by omega)]
    obtain ⟨k1, m1, p⟩ := d1 a p0 (by omega) (by omega)
    obtain ⟨k2, m2, p⟩ := d2 (a + b) p (by omega) (by omega)
    obtain ⟨k3, m3, p⟩ := d1 (a + b) p (by omega) (by omega)
    exact ⟨k3, by omega, p⟩
  · refine fin 4 (by rw [e1, e2]; rfl) (by omega) ?_
    rw [e1] at s1 d1
    rw [e2] at s2 d2
    generalize v i = a at *
    generalize v j = b at *
    simp only [downS, t1]
    rw [s2 a 0 (a + b) (by omega), s1 a (a + b) (2 * a + 2 * b) (by omega), s2 (2 * a + 2 * b) (a + b) (a + 2 * b) (by omega)]
    obtain ⟨k1, m1, p⟩ := d1 a p0 (by omega) (by omega)
    obtain ⟨k2, m2, p⟩ := d2 (a + b) p (by omega) (by omega)
    obtain ⟨k3, m3, p⟩ := d1 (2 * a + 2 * b) p (by omega) (by omega)
    obtain ⟨k4, m4, p⟩ := d2 (a + 2 * b) p (by omega) (by omega)
    exact ⟨k4, by omega, p⟩
  · refine fin 4 (by rw [e1, e2]; rfl) (by omega) ?_
    rw [e1] at s1 d1
    rw [e2] at s2 d2
    generalize v i = a at *
    generalize v j = b at *
    simp only [downS, t1]
    rw [s2 a 0 (2 * a + b) (by omega), s1 a (2 * a + b) (2 * a + b) (by omega), s2 (2 * a + b) (2 * a + b) (2 * a + 2 * b) (by omega)]
    obtain ⟨k1, m1, p⟩ := d1 a p0 (by omega) (by omega)
    obtain ⟨k2, m2, p⟩ := d2 (2 * a + b) p (by omega) (by omega)
    obtain ⟨k3, m3, p⟩ := d1 (2 * a + b) p (by omega) (by omega)
    obtain ⟨k4, m4, p⟩ := d2 (2 * a + 2 * b) p (by omega) (by omega)
    exact ⟨k4, by omega, p⟩
  · refine fin 6 (by rw [e1, e2]; rfl) (by omega) ?_
    rw [e1] at s1 d1
    rw [e2] at s2 d2
    generalize v i = a at *
    generalize v j = b at *
    simp only [downS, t1]
    rw [s2 a 0 (a + b) (by omega), s1 a (a + b) (3 * a + 3 * b) (by omega), s2 (3 * a + 3 * b) (a + b) (2 * a + 3 * b) (by omega), s1 (3 * a + 3 * b) (2 * a + 3 * b) (4 * a + 6 * b) (by omega), s2 (4 * a + 6 * b) (2 * a + 3 * b) (2 * a + 4 * b) (by omega)]
    obtain ⟨k1, m1, p⟩ := d1 a p0 (by omega) (by omega)
    obtain ⟨k2, m2, p⟩ := d2 (a + b) p (by omega) (by omega)
    obtain ⟨k3, m3, p⟩ := d1 (3 * a + 3 * b) p (by omega) (by omega)
    obtain ⟨k4, m4, p⟩ := d2 (2 * a + 3 * b) p (by omega) (by omega)
    obtain ⟨k5, m5, p⟩ := d1 (4 * a + 6 * b) p (by omega) (by omega)
    obtain ⟨k6, m6, p⟩ := d2 (2 * a + 4 * b) p (by omega) (by omega)
    exact ⟨k6, by omega, p⟩
  · refine fin 6 (by rw [e1, e2]; rfl) (by omega) ?_
    rw [e1] at s1 d1
    rw [e2] at s2 d2
    generalize v i = a at *
    generalize v j = b at *
    simp only [downS, t1]
    rw [s2 a 0 (3 * a + b) (by omega), s1 a (3 * a + b) (3 * a + b) (by omega), s2 (3 * a + b) (3 * a + b) (6 * a + 3 * b) (by omega), s1 (3 * a + b) (6 * a + 3 * b) (4 * a + 2 * b) (by omega), s2 (4 * a + 2 * b) (6 * a + 3 * b) (6 * a + 4 * b) (by omega)]
    obtain ⟨k1, m1, p⟩ := d1 a p0 (by omega) (by omega)
    obtain ⟨k2, m2, p⟩ := d2 (3 * a + b) p (by omega) (by omega)
    obtain ⟨k3, m3, p⟩ := d1 (3 * a + b) p (by omega) (by omega)
    obtain ⟨k4, m4, p⟩ := d2 (6 * a + 3 * b) p (by omega) (by omega)
    obtain ⟨k5, m5, p⟩ := d1 (4 * a + 2 * b) p (by omega) (by omega)
    obtain ⟨k6, m6, p⟩ := d2 (6 * a + 4 * b) p (by omega) (by omega)
    exact ⟨k6, by omega, p⟩
  · exfalso
    have o1 := M.off i j hi hj hij
    have o2 := M.off j i hj hi (Ne.symm hij)
    obtain ⟨m, rfl, q⟩ := pp.down M hj hb
    refine play_inf M m (fun k _ w hw => play_good M k w hw) m (Nat.le_refl _) (sr c j v) i j q hi hj h o1.1 o2.1 ?_ ?_ ?_
    · show v i - v j * c i j < 0
      have e1 : c i j = -2 ∨ c i j = -3 := by omega
      rcases e1 with e1 | e1 <;> rw [e1] <;> omega
    · rw [sr_at (M.diag j hj)]
      omega
    · rw [sr_at (M.diag j hj)]
      show - c i j * - v j ≤ 2 * - (v i - v j * c i j)
      have e1 : c i j = -2 ∨ c i j = -3 := by omega
      rcases e1 with e1 | e1 <;> rw [e1] <;> omega
end

end Go.Proofs.YtgliajcgcbnemaaGreatDoor.Hx

namespace Go.Proofs.YtgliajcgcbnemaaGreatDoor.Hx
open Go.RowKit
variable {dm : Bool}

def bondN (p : Int) : Int := if p = 0 then 2 else if p = 1 then 3 else if p = 2 then 4 else if p = 3 then 6 else 0
def bond (c : List (List Int)) (i j : Int) : Int := if isCartan c && isPoint c i && isPoint c j then (if i = j then 1 else bondN (w64 (ent c i.toNat j.toNat * ent c j.toNat i.toNat))) else -1
theorem bond_off {c : List (List Int)} {i j : Int} (h : isCartan c = false ∨ isPoint c i = false ∨ isPoint c j = false) : bond c i j = -1 := by
  rcases h with h | h | h <;> simp [bond, h]
theorem bond_eq {c : List (List Int)} {i j : Int} (h1 : isCartan c = true) (h2 : isPoint c i = true) (h3 : isPoint c j = true) (h : i = j) : bond c i j = 1 := by
  have h4 : isPoint c j = true := h3
  subst h
  simp [bond, h1, h2]
theorem bond_ne {c : List (List Int)} {i j : Int} (h1 : isCartan c = true) (h2 : isPoint c i = true) (h3 : isPoint c j = true) (h : i ≠ j) : bond c i j = bondN (w64 (ent c i.toNat j.toNat * ent c j.toNat i.toNat)) := by simp [bond, h1, h2, h3, h]
/-- Two letters in turn. -/
def altTo (i j : Int) (k : Nat) : List Int := (List.range k).map fun t => if t % 2 = 0 then i else j
def alt (i j n : Int) : List Int := altTo i j (min n.toNat 15)
theorem altTo_len (i j : Int) (k : Nat) : (altTo i j k).length = k := by simp [altTo]
theorem altTo_none (i j : Int) : altTo i j 0 = [] := rfl
/-- A braid move can be made at place k; it is made. -/
def brM (c : List (List Int)) (w : List Int) (k : Nat) : Nat := (bond c (w.getD k 0) (w.getD (k + 1) 0)).toNat
def brN (c : List (List Int)) (w : List Int) (k : Nat) : Bool :=
  decide (w.getD k 0 ≠ w.getD (k + 1) 0) && decide (2 ≤ bond c (w.getD k 0) (w.getD (k + 1) 0)) && decide (k + brM c w k ≤ w.length) &&
    decide ((w.take (k + brM c w k)).drop k = alt (w.getD k 0) (w.getD (k + 1) 0) (brM c w k))
def brW (c : List (List Int)) (w : List Int) (k : Nat) : List Int := w.take k ++ (alt (w.getD (k + 1) 0) (w.getD k 0) (brM c w k) ++ w.drop (k + brM c w k))
def brOk (c : List (List Int)) (w : List Int) (n : Int) : Bool := isWord c w && (decide (0 ≤ n) && decide (n ≤ (w.length : Int) - 2)) && brN c w n.toNat
def braid (c : List (List Int)) (w : List Int) (n : Int) : List Int := if brOk c w n then brW c w n.toNat else w

end Go.Proofs.YtgliajcgcbnemaaGreatDoor.Hx

namespace Go.Proofs.YtgliajcgcbnemaaGreatDoor.Hx
open Go.RowKit

/-- Letters applied to a place. -/
def actS (c : Nat → Nat → Int) : List Int → Pos → Pos
  | [], v => v
  | i :: w, v => sr c i.toNat (actS c w v)

theorem actS_app (c : Nat → Nat → Int) : ∀ (a b : List Int) (v : Pos), actS c (a ++ b) v = actS c a (actS c b v)
  | [], _, _ => rfl
  | i :: a, b, v => by
    show sr c i.toNat (actS c (a ++ b) v) = sr c i.toNat (actS c a (actS c b v))
    rw [actS_app c a b v]

theorem altTo_cons (i j : Int) (k : Nat) : altTo i j (k + 1) = i :: altTo j i k := by
  unfold altTo
  rw [List.range_succ_eq_map, List.map_cons, List.map_map]
  have e0 : (if 0 % 2 = 0 then i else j) = i := rfl
  rw [e0]
  refine congrArg (List.cons i) (List.map_congr_left fun t _ => ?_)
  show (if (t + 1) % 2 = 0 then i else j) = if t % 2 = 0 then j else i
  by_cases h : t % 2 = 0
  · rw [if_neg (by omega), if_pos h]
  · rw [if_pos (by omega), if_neg h]

theorem actS_alt (c : Nat → Nat → Int) : ∀ (m : Nat) (i j : Int) (v : Pos), actS c (altTo i j m) v = altS c i.toNat j.toNat m v
  | 0, _, _, _ => rfl
  | m + 1, i, j, v => by
    rw [altTo_cons]
    show sr c i.toNat (actS c (altTo j i m) v) = sr c i.toNat (altS c j.toNat i.toNat m v)
    rw [actS_alt c m j i v]

theorem letters_app {c : List (List Int)} {a b : List Int} : lettersOk c (a ++ b) = true ↔ lettersOk c a = true ∧ lettersOk c b = true := by
  simp [lettersOk, List.all_append]
theorem letters_cons {c : List (List Int)} {i : Int} {w : List Int} : lettersOk c (i :: w) = true ↔ isPoint c i = true ∧ lettersOk c w = true := by
  simp [lettersOk]
theorem letters_alt {c : List (List Int)} {i j : Int} (hi : isPoint c i = true) (hj : isPoint c j = true) (m : Nat) : lettersOk c (altTo i j m) = true := by
  refine List.all_eq_true.2 fun x hx => ?_
  obtain ⟨t, _, rfl⟩ := List.mem_map.1 hx
  by_cases h : t % 2 = 0
  · rw [if_pos h]; exact hi
  · rw [if_neg h]; exact hj

theorem play_actL {c : List (List Int)} (hC : Cartan c) : ∀ (w : List Int) {n : Nat} {u : List Int}, lettersOk c w = true → PlayL c n u → n + w.length ≤ 31 → ∃ m, m ≤ n + w.length ∧ PlayL c m (actW c w u) ∧ posOf (actW c w u) = actS (ent c) w (posOf u)
  | [], n, u, _, P, _ => ⟨n, Nat.le_refl _, P, rfl⟩
  | i :: w, n, u, h, P, hl => by
    obtain ⟨h1, h2⟩ := letters_cons.1 h
    have hi := point_of h1
    simp only [List.length_cons] at hl
    obtain ⟨m, h3, P3, e⟩ := play_actL hC w h2 P (by omega)
    obtain ⟨m', h4, P4⟩ := P3.any hC (by omega) (i := i.toNat) (by omega)
    refine ⟨m', by simp only [List.length_cons]; omega, P4, ?_⟩
    show posOf (reflW c i.toNat (actW c w u)) = sr (ent c) i.toNat (actS (ent c) w (posOf u))
    rw [pos_refl hC P3 (by omega) (by omega), e]

/-- What a bond of two or more tells. -/
theorem bond_info {c : List (List Int)} {i j : Int} {m : Nat} (h : bond c i j = m) (h2 : 2 ≤ m) : Cartan c ∧ isPoint c i = true ∧ isPoint c j = true ∧ i ≠ j ∧ m = bondP (ent c i.toNat j.toNat * ent c j.toNat i.toNat) := by
  cases h1 : isCartan c
  · rw [bond_off (Or.inl h1)] at h; omega
  cases h3 : isPoint c i
  · rw [bond_off (Or.inr (Or.inl h3))] at h; omega
  cases h4 : isPoint c j
  · rw [bond_off (Or.inr (Or.inr h4))] at h; omega
  by_cases hij : i = j
  · rw [bond_eq h1 h3 h4 hij] at h; omega
  have hC := (isCartan_iff c).1 h1
  refine ⟨hC, rfl, rfl, hij, ?_⟩
  rw [bond_ne h1 h3 h4 hij] at h
  have p1 := point_of h3
  have p2 := point_of h4
  have o1 := (matOk hC).off i.toNat j.toNat (by omega) (by omega) (by omega)
  have o2 := (matOk hC).off j.toNat i.toNat (by omega) (by omega) (by omega)
  generalize ent c i.toNat j.toNat = x at *
  generalize ent c j.toNat i.toNat = y at *
  have e1 : x = 0 ∨ x = -1 ∨ x = -2 ∨ x = -3 := by omega
  have e2 : y = 0 ∨ y = -1 ∨ y = -2 ∨ y = -3 := by omega
  rcases e1 with rfl | rfl | rfl | rfl <;> rcases e2 with rfl | rfl | rfl | rfl <;>
    (rw [w64_in (by decide) (by decide)] at h; simp only [bondN, bondP] at h ⊢; simp at h ⊢; omega)

theorem bond_of_pos {c : List (List Int)} (hC : Cartan c) {i j : Int} (hi : isPoint c i = true) (hj : isPoint c j = true) (hij : i ≠ j) : bond c i j = bondP (ent c i.toNat j.toNat * ent c j.toNat i.toNat) := by
  rw [bond_ne ((isCartan_iff c).2 hC) hi hj hij]
  have p1 := point_of hi
  have p2 := point_of hj
  have o1 := (matOk hC).off i.toNat j.toNat (by omega) (by omega) (by omega)
  have o2 := (matOk hC).off j.toNat i.toNat (by omega) (by omega) (by omega)
  generalize ent c i.toNat j.toNat = x at *
  generalize ent c j.toNat i.toNat = y at *
  have e1 : x = 0 ∨ x = -1 ∨ x = -2 ∨ x = -3 := by omega
  have e2 : y = 0 ∨ y = -1 ∨ y = -2 ∨ y = -3 := by omega
  rcases e1 with rfl | rfl | rfl | rfl <;> rcases e2 with rfl | rfl | rfl | rfl <;>
    (rw [w64_in (by decide) (by decide)]; simp only [bondN, bondP]; simp)

theorem sr_off {c : List (List Int)} {i k : Nat} (h : c.length ≤ k) (v : Pos) : sr (ent c) i v k = v k := by
  unfold sr
  rw [ent_off h]
  simp
theorem altS_off {c : List (List Int)} {k : Nat} (h : c.length ≤ k) : ∀ (m i j : Nat) (v : Pos), altS (ent c) i j m v k = v k
  | 0, _, _, _ => rfl
  | m + 1, i, j, v => by
    show sr (ent c) i (altS (ent c) j i m v) k = v k
    rw [sr_off h, altS_off h m j i v]

theorem list_of_pos (N : Nat) (f : Pos) (h : ∀ k, N ≤ k → f k = 0) : ∃ u : List Int, u.length = N ∧ posOf u = f := by
  refine ⟨(List.range N).map f, by simp, funext fun k => ?_⟩
  by_cases hk : k < N
  · simp [posOf, List.getD, hk]
  · rw [h k (by omega)]
    simp [posOf, List.getD, show N ≤ k by omega]

theorem two_words {c : List (List Int)} (hC : Cartan c) {n : Nat} {v : List Int} (P : PlayL c n v) (hn : n ≤ 30) {i j : Int} (hi : isPoint c i = true) (hj : isPoint c j = true) (hij : i ≠ j) (ha : v.getD i.toNat 0 < 0) (hb : v.getD j.toNat 0 < 0) :
    ∃ (m k : Nat) (u : List Int), bond c i j = m ∧ 2 ≤ m ∧ n = k + m ∧ PlayL c k u ∧ v = actW c (altTo i j m) u ∧ v = actW c (altTo j i m) u := by
  have p1 := point_of hi
  have p2 := point_of hj
  obtain ⟨h2, k, u0, hk, Q, e1, e2⟩ := play_two (matOk hC) (i := i.toNat) (j := j.toNat) (by omega) (by omega) (by omega) P.2 ha hb
  obtain ⟨u, hul, hu⟩ := list_of_pos c.length u0 fun q hq => by
    have := congrFun e1 q
    rw [altS_off hq] at this
    rw [← this]
    have hv : v.length ≤ q := by rw [P.1]; exact hq
    simp [posOf, List.getD, hv]
  have PQ : PlayL c k u := ⟨hul, by rw [hu]; exact Q⟩
  refine ⟨_, k, u, bond_of_pos hC hi hj hij, h2, hk, PQ, ?_, ?_⟩
  · apply posOf_inj (by rw [actW_length, P.1, hul])
    obtain ⟨_, _, _, e⟩ := play_actL hC (altTo i j (bondP (ent c i.toNat j.toNat * ent c j.toNat i.toNat))) (letters_alt hi hj _) PQ (by rw [altTo_len]; omega)
    rw [e, actS_alt, hu]
    exact e1
  · apply posOf_inj (by rw [actW_length, P.1, hul])
    obtain ⟨_, _, _, e⟩ := play_actL hC (altTo j i (bondP (ent c i.toNat j.toNat * ent c j.toNat i.toNat))) (letters_alt hj hi _) PQ (by rw [altTo_len]; omega)
    rw [e, actS_alt, hu]
    exact e2

/-- A reduced word of an element that is told by its image. -/
def Red (c : List (List Int)) (n : Nat) (v w : List Int) : Prop := w.length = n ∧ lettersOk c w = true ∧ imageOf c w = v

theorem play_unique {c : List (List Int)} (hC : Cartan c) {n m : Nat} {v : List Int} (P : PlayL c n v) (Q : PlayL c m v) (hn : n ≤ 30) (hm : m ≤ 30) : n = m := by
  rw [← nf_len hC n v 30 P hn hn, nf_len hC m v 30 Q hm hm]

theorem imageW_cons (c : List (List Int)) (i : Int) (w : List Int) : imageOf c (i :: w) = reflW c i.toNat (imageOf c w) := rfl

theorem Red.tail {c : List (List Int)} (hC : Cartan c) {n : Nat} {v w : List Int} {i : Int} (P : PlayL c (n + 1) v) (hn : n + 1 ≤ 29) (R : Red c (n + 1) v (i :: w)) :
    isPoint c i = true ∧ v.getD i.toNat 0 < 0 ∧ PlayL c n (reflW c i.toNat v) ∧ Red c n (reflW c i.toNat v) w := by
  obtain ⟨h1, h2, h3⟩ := R
  obtain ⟨hi, hw⟩ := letters_cons.1 h2
  have p1 := point_of hi
  have hwl : w.length = n := by simpa using h1
  have hin : i.toNat < c.length := by omega
  obtain ⟨m, hm, Q⟩ := play_image hC hw (by omega)
  rw [imageW_cons] at h3
  have hback : reflW c i.toNat v = imageOf c w := by
    rw [← h3]
    exact reflW_twice hC Q (by omega) hin (by rw [h3]; exact P) (by omega)
  have hneg : v.getD i.toNat 0 < 0 := by
    have hne := P.ne hC hin
    have hne2 := Q.ne hC hin
    have hs : v.getD i.toNat 0 = - (imageOf c w).getD i.toNat 0 := by
      have := congrFun (pos_refl hC Q (by omega) hin) i.toNat
      rw [h3, sr_at ((matOk hC).diag _ hin)] at this
      exact this
    by_cases hlt : (imageOf c w).getD i.toNat 0 < 0
    · obtain ⟨m', e, Q'⟩ := Q.down hC (by omega) hin hlt
      rw [h3] at Q'
      have := play_unique hC P Q' (by omega) (by omega)
      omega
    · omega
  obtain ⟨n', e, P'⟩ := P.down hC (by omega) hin hneg
  have : n' = n := by omega
  subst this
  exact ⟨hi, hneg, P', hwl, hw, hback.symm⟩

theorem Red.cons {c : List (List Int)} (hC : Cartan c) {n : Nat} {v w : List Int} {i : Int} (P : PlayL c (n + 1) v) (hn : n + 1 ≤ 30) (hi : isPoint c i = true) (h : v.getD i.toNat 0 < 0) (R : Red c n (reflW c i.toNat v) w) : Red c (n + 1) v (i :: w) := by
  have p1 := point_of hi
  have hin : i.toNat < c.length := by omega
  obtain ⟨m, e, Q⟩ := P.down hC hn hin h
  obtain ⟨h1, h2, h3⟩ := R
  refine ⟨by simp [h1], letters_cons.2 ⟨hi, h2⟩, ?_⟩
  rw [imageW_cons, h3]
  exact reflW_twice hC P hn hin Q (by omega)

/-- A braid move, and what braid moves join. -/
inductive Br (c : List (List Int)) : List Int → List Int → Prop
  | mk (p : List Int) (i j : Int) (m : Nat) (q : List Int) (hb : bond c i j = m) (h2 : 2 ≤ m) : Br c (p ++ (altTo i j m ++ q)) (p ++ (altTo j i m ++ q))

inductive Conn (c : List (List Int)) : List Int → List Int → Prop
  | refl (a : List Int) : Conn c a a
  | tail {a b d : List Int} (h : Conn c a b) (s : Br c b d) : Conn c a d

theorem Br.cons {c : List (List Int)} {a b : List Int} (x : Int) (h : Br c a b) : Br c (x :: a) (x :: b) := by
  cases h with
  | mk p i j m q hb h2 => exact .mk (x :: p) i j m q hb h2
theorem Conn.trans {c : List (List Int)} {a b d : List Int} (h : Conn c a b) (k : Conn c b d) : Conn c a d := by
  induction k with
  | refl => exact h
  | tail _ s ih => exact ih.tail s
theorem Conn.one {c : List (List Int)} {a b : List Int} (h : Br c a b) : Conn c a b := (Conn.refl a).tail h
theorem Conn.cons {c : List (List Int)} {a b : List Int} (x : Int) (h : Conn c a b) : Conn c (x :: a) (x :: b) := by
  induction h with
  | refl => exact .refl _
  | tail _ s ih => exact ih.tail (s.cons x)

theorem Br.length {c : List (List Int)} {a b : List Int} (h : Br c a b) : b.length = a.length := by
  cases h with
  | mk p i j m q hb h2 => simp [altTo_len]

/-- All reduced words of an element are joined by braid moves. -/
theorem conn_all {c : List (List Int)} (hC : Cartan c) : ∀ (n : Nat) (v : List Int), PlayL c n v → n ≤ 29 → ∀ a b, Red c n v a → Red c n v b → Conn c a b
  | 0, v, P, hn, a, b, ha, hb => by
    have e1 : a = [] := List.eq_nil_of_length_eq_zero ha.1
    have e2 : b = [] := List.eq_nil_of_length_eq_zero hb.1
    rw [e1, e2]
    exact .refl _
  | n + 1, v, P, hn, a, b, ha, hb => by
    cases a with
    | nil => have := ha.1; simp at this
    | cons i a =>
      cases b with
      | nil => have := hb.1; simp at this
      | cons j b =>
        obtain ⟨hi, ni, Pi, Ri⟩ := ha.tail hC P hn
        obtain ⟨hj, nj, Pj, Rj⟩ := hb.tail hC P hn
        by_cases hij : i = j
        · subst hij
          exact (conn_all hC n _ Pi (by omega) a b Ri Rj).cons i
        · obtain ⟨m, k, u, hbd, h2, hk, Q, e1, e2⟩ := two_words hC P (by omega) hi hj hij ni nj
          have hz1 := nf_len hC k u 30 Q (by omega) (by omega)
          have hz2 := nf_letters hC k u 30 Q (by omega) (by omega)
          have hz3 := nf_image hC k u 30 Q (by omega) (by omega)
          generalize nf c 30 u = z at hz1 hz2 hz3
          obtain ⟨m', rfl⟩ : ∃ m', m = m' + 1 := ⟨m - 1, by omega⟩
          have RA : Red c (n + 1) v (altTo i j (m' + 1) ++ z) := ⟨by rw [List.length_append, altTo_len]; omega, letters_app.2 ⟨letters_alt hi hj _, hz2⟩, by rw [imageOf, actW_app, e1]; exact congrArg _ hz3⟩
          have RB : Red c (n + 1) v (altTo j i (m' + 1) ++ z) := ⟨by rw [List.length_append, altTo_len]; omega, letters_app.2 ⟨letters_alt hj hi _, hz2⟩, by rw [imageOf, actW_app, e2]; exact congrArg _ hz3⟩
          have hAB : Conn c (altTo i j (m' + 1) ++ z) (altTo j i (m' + 1) ++ z) := Conn.one (.mk [] i j (m' + 1) z hbd h2)
          rw [altTo_cons, List.cons_append] at RA hAB
          rw [altTo_cons, List.cons_append] at RB hAB
          obtain ⟨_, _, _, RA'⟩ := RA.tail hC P hn
          obtain ⟨_, _, _, RB'⟩ := RB.tail hC P hn
          exact ((conn_all hC n _ Pi (by omega) a _ Ri RA').cons i).trans (hAB.trans ((conn_all hC n _ Pj (by omega) _ b RB' Rj).cons j))

/-! ### The program's braid moves -/

end Go.Proofs.YtgliajcgcbnemaaGreatDoor.Hx
