/-
  Contracts of finite types, of the program and of the reference.
  Contracts of orders of elements, of the program and of the reference.
  Finite types: from the opposite of rho the game of signs leads to rho within thirty steps, and the longest element takes each simple reflection of rho to one of its opposite. Found by looking at all matrices of at most four points; plain theory.
  Finite types: what the look at all matrices says of a valid matrix whose principal minors are positive.
  Contracts of the longest element, of the program and of the reference.
  The elements of a group in shells by length; each place comes from one that is one step shorter. Plain theory.
  Contracts of powers, exchange places, replayed and repeated deletions, of the program and of the reference.
  Contracts of exchange places, replayed and repeated deletions, of the program and of the reference.
  Contracts of ReducedWords, of the program: words are spelled one after the other into a slice of slices that moves.
-/
import Derived.Test.YtgliajcgcbnemaaGreatDoorZ13
namespace Go.Proofs.YtgliajcgcbnemaaGreatDoor.Hx
open Go.RowKit
variable {dm : Bool}

def minorsTo (c : List (List Int)) (k : Nat) : List Int := (List.range k).map fun t => dt c (t + 1)
theorem minorsTo_len (c : List (List Int)) (k : Nat) : (minorsTo c k).length = k := by simp [minorsTo]
theorem minorsTo_succ (c : List (List Int)) (k : Nat) : minorsTo c (k + 1) = minorsTo c k ++ [dt c (k + 1)] := by
  unfold minorsTo
  rw [List.range_succ, List.map_append]
  rfl
theorem minorsTo_get {c : List (List Int)} {k n : Nat} (h : k < n) : (minorsTo c n).getD k 0 = dt c (k + 1) := by simp [minorsTo, List.getD, h]
def setsTo (k : Nat) : List (List Int) := (List.range k).map fun t => setB (t + 1)
theorem setsTo_len (k : Nat) : (setsTo k).length = k := by simp [setsTo]
theorem setsTo_succ (k : Nat) : setsTo (k + 1) = setsTo k ++ [setB (k + 1)] := by
  unfold setsTo
  rw [List.range_succ, List.map_append]
  rfl
theorem setsTo_get {k n : Nat} (h : k < n) : (setsTo n).getD k [] = setB (k + 1) := by simp [setsTo, List.getD, h]
theorem isFinite_off {c : List (List Int)} (h : isCartan c = false) : isFinite c = false := by simp [isFinite, h]
theorem isFinite_on {c : List (List Int)} (h : isCartan c = true) {l : List Int} (hl : l.length = 0 ↔ allPos c = true) : ((l.length : Int) == 0) = isFinite c := by
  have e : isFinite c = allPos c := by simp [isFinite, h]
  rw [e]
  by_cases h0 : l.length = 0
  · rw [hl.1 h0]
    exact beq_iff_eq.2 (by omega)
  · have : allPos c = false := by
      rw [Bool.eq_false_iff]
      exact fun e => h0 (hl.2 e)
    rw [this]
    exact beq_eq_false_iff_ne.2 (by omega)
theorem set_len4 (m : Nat) : (setB m).length ≤ 4 := setTo_len m 4


theorem impl_PrincipalMinors (h : Heap) (x : H0) (c : List (List Int)) (hx : Rows h x c) (hic : isCartan c = true) :
    HCalls dm Tryz.prog 185 [.s x] h (fun r h' => ∃ y, r = .s y ∧ Fresh h h' y (minorsTo c (2 ^ c.length - 1))) := by
  have hC := (isCartan_iff c).1 hic
  have h4 := hC.le
  have h16 := pow_le16 (n := c.length) (by omega)
  have E0 := Ext.push h [Row.own []]
  refine calls_of_hFun (m := 0) kd_ok mixed Tryz.func185 rfl (by kernel_rfl) rfl rfl (of_decide_eq_true rfl) ?_; unfold hFun; (conv => whnf)
  refine HLit.empty ?_
  (conv => whnf)
  refine (impl_IsCartan _ _ _ (hx.ext E0) (by omega)).mono ?_
  rintro r h1 ⟨rfl, hh⟩
  subst h1
  rw [hic]
  (conv => whnf)
  refine HIf.no ?_
  (conv => whnf)
  refine HLoop.intro [4, 3] [10, 11, 12, 13, 14, 17, 18, 19, 20, 21, 22, 23, 24, 3, 15, 16, 4] (by kernel_rfl) (by kernel_rfl) (fun vs h' => ∃ (k : Nat) (z : H0) (r : Nat), vs = [I ((k + 1 : Nat) : Int), .s z] ∧ k + 1 ≤ 2 ^ c.length ∧ Ext h h' ∧ h.length ≤ r ∧ OwnR r h' z (minorsTo c k)) (fun vs _ => 16 - natAt vs 0) ⟨0, _, h.length, rfl, Nat.one_le_two_pow, E0, Nat.le_refl _, OwnR.push h []⟩ ?_
  rintro vs h' ⟨k, z, r, rfl, hk, E, hr, O⟩
  have hml := minorsTo_len c k
  have hx1 := hx.ext E
  have hE := E.1
  (conv => whnf)
  refine ⟨rfl, hx1.len ?_⟩
  (conv => whnf)
  refine HShl.one (by omega) ?_
  (conv => whnf)
  refine HIf.dec (fun hlt => ?_) (fun hge => ?_)
  · obtain ⟨f1, f2, f3⟩ := setB_fits c.length (by omega) (k + 1) (by omega) (by omega)
    have hs4 := set_len4 (k + 1)
    (conv => whnf)
    refine (impl_setOf _ (k + 1) (by omega)).mono ?_
    rintro v h2 ⟨y2, rfl, g2⟩
    (conv => whnf)
    refine (impl_picked _ _ c _ _ (hx1.ext g2.1) g2.ints hC f2 hs4).mono ?_
    rintro v h3 ⟨y3, rfl, E3, O3⟩
    (conv => whnf)
    refine (impl_determinant _ hs4 _ _ _ O3.rows (pick_sq hC f2)).mono ?_
    rintro v h5 ⟨rfl, E5⟩
    have Eb := (g2.1.trans E3).trans E5
    have hEb := Eb.1
    have es : minorsTo c (k + 1) = minorsTo c k ++ [detZ (setB (k + 1)).length (pick c (setB (k + 1)))] := minorsTo_succ c k
    (conv => whnf)
    refine HLit.one ?_
    (conv => whnf)
    refine ⟨rfl, rfl, HApp.snocR (O.ext Eb) (by omega) (fun h6 r6 y6 B6 hr6 O6 => ?_)⟩
    rw [← es] at O6
    (conv => whnf)
    refine HArith.to (e' := ((k + 1 + 1 : Nat) : Int)) (by omega) (by omega) (by omega) ?_
    (conv => whnf)
    exact ⟨⟨k + 1, y6, r6, rfl, by omega, (E.trans Eb).but B6 hr, by omega, O6⟩, by show 16 - (k + 1 + 1) < 16 - (k + 1); omega⟩
  · have e : 2 ^ c.length - 1 = k := by omega
    rw [e]
    (conv => whnf)
    exact ⟨_, rfl, Fresh.ofRow E O hr⟩

theorem impl_WitnessOf (h : Heap) (x : H0) (c : List (List Int)) (hx : Rows h x c) (hic : isCartan c = true) :
    HCalls dm Tryz.prog 134 [.s x] h (fun r h' => ∃ (y : H0) (l : List Int), r = .s y ∧ Ext h h' ∧ Ints h' y l ∧ (l.length = 0 ↔ allPos c = true)) := by
  have hC := (isCartan_iff c).1 hic
  have h4 := hC.le
  have h16 := pow_le16 (n := c.length) (by omega)
  refine calls_of_hFun (m := 0) kd_ok mixed Tryz.func134 rfl (by kernel_rfl) rfl rfl (of_decide_eq_true rfl) ?_; unfold hFun; (conv => whnf)
  refine (impl_PrincipalMinors _ _ c hx hic).mono ?_
  rintro r h1 ⟨y1, rfl, f1⟩
  have hy := f1.ints
  have hml := minorsTo_len c (2 ^ c.length - 1)
  (conv => whnf)
  refine ⟨rfl, hy.len ?_⟩
  rw [hml]
  (conv => whnf)
  refine HLoop.intro [8] [9, 10, 11, 12, 3, 4, 13, 14, 15, 16, 17, 2, 18, 8] (by kernel_rfl) (by kernel_rfl) (fun vs h' => ∃ k : Nat, vs = [I k] ∧ k ≤ 2 ^ c.length - 1 ∧ h' = h1 ∧ ∀ t, t < k → 0 < dt c (t + 1)) (fun vs _ => 16 - natAt vs 0) ⟨0, rfl, by omega, rfl, fun t ht => by omega⟩ ?_
  rintro vs h' ⟨k, rfl, hk, hh, hb⟩
  subst h'
  (conv => whnf)
  refine HIf.dec (fun hlt => ?_) (fun hge => ?_)
  · have hg := minorsTo_get (c := c) (k := k) (n := 2 ^ c.length - 1) (by omega)
    (conv => whnf)
    refine ⟨rfl, Ints.idxN hy (by omega) (fun p hp => ?_)⟩
    rw [hg] at hp
    (conv => whnf)
    refine ⟨rfl, hp.load ?_⟩
    (conv => whnf)
    refine HIf.dec (fun hle => ?_) (fun hpos => ?_)
    · (conv => whnf)
      refine HArith.to (e' := ((k + 1 : Nat) : Int)) (by omega) (by omega) (by omega) ?_
      (conv => whnf)
      refine (impl_setOf _ (k + 1) (by omega)).mono ?_
      rintro v h2 ⟨y2, rfl, g2⟩
      have f1' := (setB_fits c.length (by omega) (k + 1) (by omega) (by omega)).1
      have hap := allPos_not (c := c) (k := k) (by omega) hle
      (conv => whnf)
      exact ⟨_, _, rfl, f1.1.trans g2.1, g2.ints, ⟨fun h => absurd h f1', fun h => by rw [hap] at h; cases h⟩⟩
    · (conv => whnf)
      refine HArith.fits (by omega) (by omega) ?_
      (conv => whnf)
      refine ⟨⟨k + 1, rfl, by omega, rfl, fun t ht => ?_⟩, by show 16 - (k + 1) < 16 - k; omega⟩
      by_cases e : t = k
      · subst e; omega
      · exact hb t (by omega)
  · have hap := allPos_of (c := c) (fun t ht => hb t (by omega))
    (conv => whnf)
    refine HLit.empty ?_
    (conv => whnf)
    exact ⟨_, [], rfl, f1.1.trans (Ext.push _ _), (OwnR.push _ []).ints, ⟨fun _ => hap, fun _ => rfl⟩⟩

theorem impl_IsFinite (h : Heap) (x : H0) (c : List (List Int)) (hx : Rows h x c) (hcl : c.length ≤ 1048576) :
    HCalls dm Tryz.prog 77 [.s x] h (fun r h' => r = B (isFinite c) ∧ Ext h h') := by
  refine calls_of_hFun (m := 0) kd_ok mixed Tryz.func77 rfl (by kernel_rfl) rfl rfl (of_decide_eq_true rfl) ?_; unfold hFun; (conv => whnf)
  refine (impl_IsCartan _ _ _ hx (by omega)).mono ?_
  rintro r h1 ⟨rfl, hh⟩
  subst h1
  (conv => whnf)
  cases hic : isCartan c
  · (repeat (first | (refine HIf.no ?_; conv => whnf)))
    exact ⟨bEq (isFinite_off hic), Ext.refl _⟩
  refine HIf.yes ?_
  (conv => whnf)
  refine HIf.yes ?_
  (conv => whnf)
  refine (impl_WitnessOf _ _ c hx hic).mono ?_
  rintro r h1 ⟨y, l, rfl, E, hl, hiff⟩
  have hfin := isFinite_on hic hiff
  (conv => whnf)
  (repeat (first | (refine HIf.yes ?_; conv => whnf) | (refine ⟨rfl, hl.len ?_⟩; conv => whnf)))
  exact ⟨bEq hfin.symm, E⟩

theorem spec_l4Sets (h : Heap) (n : Nat) (hn : n < 5) :
    HCalls dm Tryz.prog 177 [I n] h (fun r h' => ∃ y, r = .s y ∧ Ext h h' ∧ OwnM h.length h'.length h' y (setsTo (2 ^ n - 1))) := by
  have h16 := pow_le16 hn
  refine calls_of_hFun (m := 0) kd_ok mixed Tryz.func177 rfl (by kernel_rfl) rfl rfl (of_decide_eq_true rfl) ?_; unfold hFun; (conv => whnf)
  refine HLit.empty ?_
  (conv => whnf)
  refine HLoop.intro [4, 3] [8, 9, 10, 11, 14, 5, 6, 15, 16, 17, 20, 21, 22, 23, 24, 25, 26, 27, 28, 5, 18, 19, 6, 29, 30, 31, 32, 3, 12, 13, 4] (by kernel_rfl) (by kernel_rfl) (fun vs h' => ∃ (k : Nat) (z : H0), vs = [I ((k + 1 : Nat) : Int), .s z] ∧ k + 1 ≤ 2 ^ n ∧ Ext h h' ∧ OwnM h.length h'.length h' z (setsTo k)) (fun vs _ => 16 - natAt vs 0) ⟨0, _, rfl, Nat.one_le_two_pow, Ext.push _ _, OwnM.none h⟩ ?_
  rintro vs h' ⟨k, z, rfl, hk, E, OM⟩
  have hsl := setsTo_len k
  (conv => whnf)
  refine HShl.one hn ?_
  (conv => whnf)
  refine HIf.dec (fun hlt => ?_) (fun hge => ?_)
  · have Ep := Ext.push h' [Row.own []]
    (conv => whnf)
    refine HLit.empty ?_
    (conv => whnf)
    refine HLoop.intro [6, 5] [15, 16, 17, 20, 21, 22, 23, 24, 25, 26, 27, 28, 5, 18, 19, 6] (by kernel_rfl) (by kernel_rfl) (fun vs h2 => ∃ (b : Nat) (y : H0) (r : Nat), vs = [I b, .s y] ∧ b ≤ n ∧ Ext h' h2 ∧ h'.length ≤ r ∧ OwnR r h2 y (setTo (k + 1) b)) (fun vs _ => n - natAt vs 0) ⟨0, _, h'.length, rfl, by omega, Ep, Nat.le_refl _, OwnR.push h' []⟩ ?_
    rintro vs h2 ⟨b, y, r, rfl, hb, E2, hr, O⟩
    have htl := setTo_len (k + 1) b
    have hE2 := E2.1
    have hdl : (k + 1) / 2 ^ b ≤ k + 1 := Nat.div_le_self _ _
    (conv => whnf)
    refine HIf.dec (fun hltb => ?_) (fun hgeb => ?_)
    · (conv => whnf)
      refine HShr.bits (by omega) (by omega) ?_
      (conv => whnf)
      refine HAnd.one (by omega) ?_
      (conv => whnf)
      rw [bit_one]
      cases hbt : bit (k + 1) b
      · rw [← setTo_out hbt] at O
        refine HIf.no ?_
        (conv => whnf)
        refine HArith.fits (by omega) (by omega) ?_
        (conv => whnf)
        exact ⟨⟨b + 1, y, r, rfl, by omega, E2, hr, O⟩, by show n - (b + 1) < n - b; omega⟩
      · refine HIf.yes ?_
        (conv => whnf)
        refine HLit.one ?_
        (conv => whnf)
        refine ⟨rfl, rfl, HApp.snocR O (by omega) (fun h3 r3 y3 B3 hr3 O3 => ?_)⟩
        rw [← setTo_in hbt] at O3
        (conv => whnf)
        refine HArith.fits (by omega) (by omega) ?_
        (conv => whnf)
        exact ⟨⟨b + 1, y3, r3, rfl, by omega, E2.but B3 hr, by omega, O3⟩, by show n - (b + 1) < n - b; omega⟩
    · have e : b = n := by omega
      rw [e, setTo_all n hn (k + 1) (by omega)] at O
      have F := O.own hr
      (conv => whnf)
      refine HLit.row F.one ?_
      (conv => whnf)
      refine ⟨rfl, rfl, HApp.snocM E OM E2 F (by omega) (fun h5 y5 E5 O5 => ?_)⟩
      rw [← setsTo_succ] at O5
      (conv => whnf)
      refine HArith.to (e' := ((k + 1 + 1 : Nat) : Int)) (by omega) (by omega) (by omega) ?_
      (conv => whnf)
      exact ⟨⟨k + 1, y5, rfl, by omega, E5, O5⟩, by show 16 - (k + 1 + 1) < 16 - (k + 1); omega⟩
  · have e : 2 ^ n - 1 = k := by omega
    rw [e]
    (conv => whnf)
    exact ⟨_, rfl, E, OM⟩

theorem spec_l3Set (h : Heap) (x0 : H0) (c : List (List Int)) (x1 : H0) (o : List Int) (hx0 : Rows h x0 c) (hx1 : Ints h x1 o) (hic : isCartan c = true) (ho : ∀ k, k < o.length → 0 ≤ o.getD k 0 ∧ o.getD k 0 < c.length) (hs : ∀ k, k < o.length → k = 0 ∨ o.getD (k - 1) 0 < o.getD k 0) (hol : o.length ≤ 4) :
    HCalls dm Tryz.prog 180 [.s x0, .s x1] h (fun r h' => r = B true ∧ h' = h) := by
  have hC := (isCartan_iff c).1 hic
  have h4 := hC.le
  refine calls_of_hFun (m := 0) kd_ok mixed Tryz.func180 rfl (by kernel_rfl) rfl rfl (of_decide_eq_true rfl) ?_; unfold hFun; (conv => whnf)
  refine HLoop.intro [5] [6, 7, 8, 9, 12, 13, 14, 15, 16, 17, 18, 19, 20, 21, 22, 23, 24, 25, 26, 27, 28, 29, 30, 31, 32, 33, 34, 35, 36, 4, 10, 11, 5] (by kernel_rfl) (by kernel_rfl) (fun vs h' => ∃ k : Nat, vs = [I k] ∧ k ≤ o.length ∧ h' = h) (fun vs _ => o.length - natAt vs 0) ⟨0, rfl, by omega, rfl⟩ ?_
  rintro vs h' ⟨k, rfl, hk, hh⟩
  subst h'
  (conv => whnf)
  refine ⟨rfl, hx1.len ?_⟩
  (conv => whnf)
  refine HIf.dec (fun hlt => ?_) (fun hge => ?_)
  · have hok := ho k (by omega)
    have hsk := hs k (by omega)
    have hpt : isPoint c (o.getD k 0) = true := by simp only [isPoint, inRange, Bool.and_eq_true, decide_eq_true_eq]; omega
    have idx1 : ∀ {K : HV → Prop}, (∀ p, At h p (ci (o.getD k 0)) → K (.s p)) → HIdx h (.s x1) (I k) K := fun hK => Ints.idxN hx1 (by omega) hK
    (conv => whnf)
    refine Or.inl (And.intro (show Region.lexB _ _ = true by kernel_rfl) ?_); (conv => whnf)
    refine ⟨rfl, idx1 (fun p hp => ?_)⟩
    (conv => whnf)
    refine ⟨rfl, hp.load ?_⟩
    (conv => whnf)
    refine ⟨rfl, hx0.len ?_⟩
    (conv => whnf)
    refine HArith.fits (by omega) (by omega) ?_
    (conv => whnf)
    refine HCallQ.of (.bool (decide (0 ≤ o.getD k 0) && decide (o.getD k 0 ≤ (c.length : Int) - 1))) (spec_l1In _ (o.getD k 0) 0 ((c.length : Int) - 1)) (fun x h' hR => hR.1) ?_
    rw [isPoint_l1, hpt]
    (conv => whnf)
    by_cases hk0 : (k : Int) > 0
    · have idx2 : ∀ {K : HV → Prop}, (∀ p, At h p (ci (o.getD (k - 1) 0)) → K (.s p)) → HIdx h (.s x1) (I ((k - 1 : Nat) : Int)) K := fun hK => Ints.idxN hx1 (by omega) hK
      have hng : ¬ (o.getD (k - 1) 0 ≥ o.getD k 0) := by omega
      (repeat (first | (refine HIf.yes ?_; conv => whnf) | (refine HIf.no ?_; conv => whnf) | (refine HIf.decT hk0 ?_; conv => whnf) | (refine HArith.to (e' := ((k - 1 : Nat) : Int)) (by omega) (by omega) (by omega) ?_; conv => whnf) | (refine ⟨rfl, idx2 (fun p hp => ?_)⟩; conv => whnf) | (refine ⟨rfl, idx1 (fun p hp => ?_)⟩; conv => whnf) | (refine ⟨rfl, At.load (by assumption) ?_⟩; conv => whnf)))
      refine HIf.decF hng ?_
      (conv => whnf)
      refine HArith.fits (by omega) (by omega) ?_
      (conv => whnf)
      exact ⟨⟨k + 1, rfl, by omega, rfl⟩, by show o.length - (k + 1) < o.length - k; omega⟩
    · (repeat (first | (refine HIf.yes ?_; conv => whnf) | (refine HIf.no ?_; conv => whnf) | (refine HIf.decF hk0 ?_; conv => whnf)))
      refine HArith.fits (by omega) (by omega) ?_
      (conv => whnf)
      exact ⟨⟨k + 1, rfl, by omega, rfl⟩, by show o.length - (k + 1) < o.length - k; omega⟩
  · (conv => whnf)
    refine (spec_IsCartan _ _ _ hx0 (by omega)).mono ?_
    rintro r h1 ⟨rfl, hh⟩
    subst h1
    rw [hic]
    (conv => whnf)
    exact ⟨rfl, rfl⟩

theorem spec_SubCartan (h : Heap) (x0 : H0) (c : List (List Int)) (x1 : H0) (o : List Int) (hx0 : Rows h x0 c) (hx1 : Ints h x1 o) (hic : isCartan c = true) (ho : ∀ k, k < o.length → 0 ≤ o.getD k 0 ∧ o.getD k 0 < c.length) (hs : ∀ k, k < o.length → k = 0 ∨ o.getD (k - 1) 0 < o.getD k 0) (hol : o.length ≤ 4) (hne : o.length ≠ 0) :
    HCalls dm Tryz.prog 132 [.s x0, .s x1] h (fun r h' => ∃ y, r = T2 y true ∧ Ext h h' ∧ OwnM h.length h'.length h' y (pick c o)) := by
  have hC := (isCartan_iff c).1 hic
  have h4 := hC.le
  have E0 := Ext.push h [Row.own []]
  have hx10 := hx1.ext E0
  refine calls_of_hFun (m := 0) kd_ok mixed Tryz.func132 rfl (by kernel_rfl) rfl rfl (of_decide_eq_true rfl) ?_; unfold hFun; (conv => whnf)
  refine HLit.empty ?_
  (conv => whnf)
  refine (spec_l3Set _ _ c _ o (hx0.ext E0) hx10 hic ho hs hol).mono ?_
  rintro r h1 ⟨rfl, hh⟩
  subst h1
  have hz : ¬ ((o.length : Int) = 0) := by omega
  (conv => whnf)
  (repeat (first | (refine HIf.yes ?_; conv => whnf) | (refine HIf.no ?_; conv => whnf) | (refine ⟨rfl, hx10.len ?_⟩; conv => whnf)))
  refine HIf.beqF hz ?_
  (conv => whnf)
  refine HLoop.intro [7, 6] [21, 22, 23, 24, 27, 8, 9, 28, 29, 30, 31, 34, 35, 36, 37, 38, 39, 40, 41, 42, 43, 44, 45, 46, 47, 48, 49, 8, 32, 33, 9, 50, 51, 52, 53, 6, 25, 26, 7] (by kernel_rfl) (by kernel_rfl) (fun vs h' => ∃ (a : Nat) (z : H0), vs = [I a, .s z] ∧ a ≤ o.length ∧ Ext h h' ∧ OwnM h.length h'.length h' z (pickTo c o a)) (fun vs _ => o.length - natAt vs 0) ⟨0, _, rfl, by omega, Ext.push _ _, OwnM.none h⟩ ?_
  rintro vs h' ⟨a, z, rfl, ha, E, OM⟩
  have hpl := pickTo_len c o a
  have hx1 := hx1.ext E
  (conv => whnf)
  refine ⟨rfl, hx1.len ?_⟩
  (conv => whnf)
  refine HIf.dec (fun hlt => ?_) (fun hge => ?_)
  · have hoa := ho a (by omega)
    obtain ⟨i, hi⟩ : ∃ i : Nat, o.getD a 0 = (i : Int) := ⟨(o.getD a 0).toNat, by omega⟩
    rw [hi] at hoa
    have hir := hC.row i (by omega)
    have Ep := Ext.push h' [Row.own []]
    (conv => whnf)
    refine HLit.empty ?_
    (conv => whnf)
    refine HLoop.intro [9, 8] [28, 29, 30, 31, 34, 35, 36, 37, 38, 39, 40, 41, 42, 43, 44, 45, 46, 47, 48, 49, 8, 32, 33, 9] (by kernel_rfl) (by kernel_rfl) (fun vs h2 => ∃ (b : Nat) (y : H0) (r : Nat), vs = [I b, .s y] ∧ b ≤ o.length ∧ Ext h' h2 ∧ h'.length ≤ r ∧ OwnR r h2 y (pickRow c o i b)) (fun vs _ => o.length - natAt vs 0) ⟨0, _, h'.length, rfl, by omega, Ep, Nat.le_refl _, OwnR.push h' []⟩ ?_
    rintro vs h2 ⟨b, y, r, rfl, hb, E2, hr, O⟩
    have hrl := pickRow_len c o i b
    have hE2 := E2.1
    have hx12 := hx1.ext E2
    (conv => whnf)
    refine ⟨rfl, hx12.len ?_⟩
    (conv => whnf)
    refine HIf.dec (fun hltb => ?_) (fun hgeb => ?_)
    · have hob := ho b (by omega)
      obtain ⟨j, hj⟩ : ∃ j : Nat, o.getD b 0 = (j : Int) := ⟨(o.getD b 0).toNat, by omega⟩
      rw [hj] at hob
      have hx02 := (hx0.ext E).ext E2
      (conv => whnf)
      refine Or.inr (Or.inr (Or.inl (Exists.intro 15 (Exists.intro [0, 1, 2, 3, 4, 5, 6, 7, 8, 9, 10, 11, 12, 13] (Exists.intro [14, 15, 16] (And.intro (show heldOk _ _ _ _ = true by kernel_rfl) ?_)))))); (conv => whnf)
      refine ⟨rfl, Ints.idxN hx12 (by omega) (fun p hp => ?_)⟩
      rw [hi] at hp
      (conv => whnf)
      refine ⟨rfl, hp.load ?_⟩
      (conv => whnf)
      refine ⟨rfl, Rows.idxN hx02 (by omega) (fun p3 y3 hp3 hy3 => ?_)⟩
      (conv => whnf)
      refine ⟨rfl, hp3.load ?_⟩
      (conv => whnf)
      refine ⟨rfl, Ints.idxN hx12 (by omega) (fun p2 hp2 => ?_)⟩
      rw [hj] at hp2
      (conv => whnf)
      refine ⟨rfl, hp2.load ?_⟩
      (conv => whnf)
      refine ⟨rfl, Ints.idxN hy3 (by omega) (fun p4 hp4 => ?_)⟩
      (conv => whnf)
      refine ⟨rfl, hp4.load ?_⟩
      rw [ent_eq]
      (conv => whnf)
      refine HLit.one ?_
      (conv => whnf)
      refine ⟨rfl, rfl, HApp.snocR O (by omega) (fun h3 r3 y5 B3 hr3 O3 => ?_)⟩
      have es : pickRow c o i (b + 1) = pickRow c o i b ++ [ent c i j] := by rw [pickRow_succ, hj]; rfl
      rw [← es] at O3
      (conv => whnf)
      refine HArith.fits (by omega) (by omega) ?_
      (conv => whnf)
      exact ⟨⟨b + 1, y5, r3, rfl, by omega, E2.but B3 hr, by omega, O3⟩, by show o.length - (b + 1) < o.length - b; omega⟩
    · have e : b = o.length := by omega
      subst e
      have er : pickTo c o (a + 1) = pickTo c o a ++ [pickRow c o i o.length] := by rw [pickTo_succ, hi]; rfl
      have F := O.own hr
      (conv => whnf)
      refine HLit.row F.one ?_
      (conv => whnf)
      refine ⟨rfl, rfl, HApp.snocM E OM E2 F (by omega) (fun h5 y5 E5 O5 => ?_)⟩
      rw [← er] at O5
      (conv => whnf)
      refine HArith.fits (by omega) (by omega) ?_
      (conv => whnf)
      exact ⟨⟨a + 1, y5, rfl, by omega, E5, O5⟩, by show o.length - (a + 1) < o.length - a; omega⟩
  · have e : a = o.length := by omega
    subst e
    (conv => whnf)
    exact ⟨_, rfl, E, OM⟩

theorem spec_WitnessOf (h : Heap) (x : H0) (c : List (List Int)) (hx : Rows h x c) (hic : isCartan c = true) :
    HCalls dm Tryz.prog 130 [.s x] h (fun r h' => ∃ (y : H0) (l : List Int), r = .s y ∧ Ext h h' ∧ Ints h' y l ∧ (l.length = 0 ↔ allPos c = true)) := by
  have hC := (isCartan_iff c).1 hic
  have h4 := hC.le
  have h16 := pow_le16 (n := c.length) (by omega)
  refine calls_of_hFun (m := 0) kd_ok mixed Tryz.func130 rfl (by kernel_rfl) rfl rfl (of_decide_eq_true rfl) ?_; unfold hFun; (conv => whnf)
  refine (spec_IsCartan _ _ _ hx (by omega)).mono ?_
  rintro r h1 ⟨rfl, hh⟩
  subst h1
  rw [hic]
  (conv => whnf)
  refine HIf.no ?_
  (conv => whnf)
  refine ⟨rfl, hx.len ?_⟩
  (conv => whnf)
  refine (spec_l4Sets _ c.length (by omega)).mono ?_
  rintro r h1 ⟨y1, rfl, E1, OM⟩
  have hsl := setsTo_len (2 ^ c.length - 1)
  (conv => whnf)
  refine HLoop.intro [4] [14, 15, 16, 17, 21, 22, 23, 24, 25, 26, 20, 27, 28, 5, 6, 29, 30, 31, 32, 33, 34, 35, 2, 18, 19, 4] (by kernel_rfl) (by kernel_rfl) (fun vs h' => ∃ k : Nat, vs = [I k] ∧ k ≤ 2 ^ c.length - 1 ∧ Ext h1 h' ∧ ∀ t, t < k → 0 < dt c (t + 1)) (fun vs _ => 16 - natAt vs 0) ⟨0, rfl, by omega, Ext.refl _, fun t ht => by omega⟩ ?_
  rintro vs h' ⟨k, rfl, hk, E2, hb⟩
  have R := (OM.ext E2).rows
  have E := E1.trans E2
  (conv => whnf)
  refine ⟨rfl, R.len ?_⟩
  rw [hsl]
  (conv => whnf)
  refine HIf.dec (fun hlt => ?_) (fun hge => ?_)
  · have hg := setsTo_get (k := k) (n := 2 ^ c.length - 1) (by omega)
    obtain ⟨f1, f2, f3⟩ := setB_fits c.length (by omega) (k + 1) (by omega) (by omega)
    have hs4 := set_len4 (k + 1)
    (conv => whnf)
    refine ⟨rfl, Rows.idxN R (by omega) (fun p z hp hz => ?_)⟩
    rw [hg] at hz
    (conv => whnf)
    refine ⟨rfl, hp.load ?_⟩
    (conv => whnf)
    refine (spec_SubCartan _ _ c _ _ (hx.ext E) hz hic f2 f3 hs4 f1).mono ?_
    rintro v h3 ⟨y3, rfl, E3, O3⟩
    (conv => whnf)
    refine (spec_l4Det _ hs4 _ _ _ O3.rows (pick_sq hC f2)).mono ?_
    rintro v h5 ⟨rfl, E5⟩
    have E35 := E3.trans E5
    have R5 := R.ext E35
    have ed : detZ (setB (k + 1)).length (pick c (setB (k + 1))) = dt c (k + 1) := rfl
    rw [ed]
    (conv => whnf)
    refine HIf.dec (fun hle => ?_) (fun hpos => ?_)
    · have hap := allPos_not (c := c) (k := k) (by omega) hle
      (conv => whnf)
      refine ⟨rfl, Rows.idxN R5 (by omega) (fun p7 z7 hp7 hz7 => ?_)⟩
      rw [hg] at hz7
      (conv => whnf)
      refine ⟨rfl, hp7.load ?_⟩
      (conv => whnf)
      exact ⟨_, _, rfl, E.trans E35, hz7, ⟨fun h => absurd h f1, fun h => by rw [hap] at h; cases h⟩⟩
    · (conv => whnf)
      refine HArith.fits (by omega) (by omega) ?_
      (conv => whnf)
      refine ⟨⟨k + 1, rfl, by omega, E2.trans E35, fun t ht => ?_⟩, by show 16 - (k + 1) < 16 - k; omega⟩
      by_cases e : t = k
      · subst e; omega
      · exact hb t (by omega)
  · have hap := allPos_of (c := c) (fun t ht => hb t (by omega))
    (conv => whnf)
    refine HLit.empty ?_
    (conv => whnf)
    exact ⟨_, [], rfl, E.trans (Ext.push _ _), (OwnR.push _ []).ints, ⟨fun _ => hap, fun _ => rfl⟩⟩

theorem spec_IsFinite (h : Heap) (x : H0) (c : List (List Int)) (hx : Rows h x c) (hcl : c.length ≤ 1048576) :
    HCalls dm Tryz.prog 73 [.s x] h (fun r h' => r = B (isFinite c) ∧ Ext h h') := by
  refine calls_of_hFun (m := 0) kd_ok mixed Tryz.func73 rfl (by kernel_rfl) rfl rfl (of_decide_eq_true rfl) ?_; unfold hFun; (conv => whnf)
  refine (spec_IsCartan _ _ _ hx (by omega)).mono ?_
  rintro r h1 ⟨rfl, hh⟩
  subst h1
  (conv => whnf)
  cases hic : isCartan c
  · (repeat (first | (refine HIf.no ?_; conv => whnf)))
    exact ⟨bEq (isFinite_off hic), Ext.refl _⟩
  refine HIf.yes ?_
  (conv => whnf)
  refine HIf.yes ?_
  (conv => whnf)
  refine (spec_WitnessOf _ _ c hx hic).mono ?_
  rintro r h1 ⟨y, l, rfl, E, hl, hiff⟩
  have hfin := isFinite_on hic hiff
  (conv => whnf)
  (repeat (first | (refine HIf.yes ?_; conv => whnf) | (refine ⟨rfl, hl.len ?_⟩; conv => whnf)))
  exact ⟨bEq hfin.symm, E⟩

end Go.Proofs.YtgliajcgcbnemaaGreatDoor.Hx

namespace Go.Proofs.YtgliajcgcbnemaaGreatDoor.Hx
open Go.RowKit
variable {dm : Bool}

def ordF (c : List (List Int)) (w : List Int) : Nat → List Int → Nat → Int
  | 0, _, _ => 0
  | f + 1, p, k => if (normF c (p ++ w)).length = 0 then (k : Int) else if 15 < (normF c (p ++ w)).length then 0 else ordF c w f (normF c (p ++ w)) (k + 1)
def ordG (c : List (List Int)) (w : List Int) (f : Nat) (y : List Int) (k : Nat) : Int := if y.length = 0 then (k : Int) else if 15 < y.length then 0 else ordF c w f y (k + 1)
def orderOf (c : List (List Int)) (w : List Int) : Int := if isWord c w && (isFinite c || decide ((normF c w).length ≤ 7)) then ordF c w 60 [] 1 else 0

end Go.Proofs.YtgliajcgcbnemaaGreatDoor.Hx

namespace Go.Proofs.YtgliajcgcbnemaaGreatDoor.Hx
open Go.RowKit

abbrev IP := Int × Int
def D3 (a b c d e f g h i : Int) : Int := a * (e * i - f * h) - b * (d * i - f * g) + c * (d * h - e * g)
def opts : List IP := [(0, 0), (-1, -1), (-1, -2), (-2, -1), (-1, -3), (-3, -1)]
def d3 (p q r : IP) : Int := D3 2 p.1 q.1 p.2 2 r.1 q.2 r.2 2
def d4 (p q r s t u : IP) : Int := 2 * D3 2 r.1 t.1 r.2 2 u.1 t.2 u.2 2 - p.1 * D3 p.2 r.1 t.1 q.2 2 u.1 s.2 u.2 2 + q.1 * D3 p.2 2 t.1 q.2 r.2 u.1 s.2 t.2 2 - s.1 * D3 p.2 2 r.1 q.2 r.2 2 s.2 t.2 u.2
structure V4 where
  a : Int
  b : Int
  c : Int
  d : Int
structure M6 where
  p : IP
  q : IP
  r : IP
  s : IP
  t : IP
  u : IP
def st1 (m : M6) (v : V4) : V4 := ⟨v.a - v.a * 2, v.b - v.a * m.p.2, v.c - v.a * m.q.2, v.d - v.a * m.s.2⟩
def st2 (m : M6) (v : V4) : V4 := ⟨v.a - v.b * m.p.1, v.b - v.b * 2, v.c - v.b * m.r.2, v.d - v.b * m.t.2⟩
def st3 (m : M6) (v : V4) : V4 := ⟨v.a - v.c * m.q.1, v.b - v.c * m.r.1, v.c - v.c * 2, v.d - v.c * m.u.2⟩
def st4 (m : M6) (v : V4) : V4 := ⟨v.a - v.d * m.s.1, v.b - v.d * m.t.1, v.c - v.d * m.u.1, v.d - v.d * 2⟩
def stp (m : M6) : Nat → V4 → V4
  | 0 => st1 m
  | 1 => st2 m
  | 2 => st3 m
  | _ => st4 m
def negB (x : Int) : Bool := match x with
  | .ofNat _ => false
  | .negSucc _ => true
def run (n : Nat) (m : M6) (K : (V4 → V4) → V4 → Bool) : Nat → V4 → (V4 → V4) → Bool
  | 0, v, k => K k v
  | f + 1, v, k => match Nat.blt 0 n && negB v.a with
    | true => run n m K f (st1 m v) (fun x => k (st1 m x))
    | false => match Nat.blt 1 n && negB v.b with
      | true => run n m K f (st2 m v) (fun x => k (st2 m x))
      | false => match Nat.blt 2 n && negB v.c with
        | true => run n m K f (st3 m v) (fun x => k (st3 m x))
        | false => match Nat.blt 3 n && negB v.d with
          | true => run n m K f (st4 m v) (fun x => k (st4 m x))
          | false => K k v
def eqV (x y : V4) : Bool := x.a == y.a && x.b == y.b && x.c == y.c && x.d == y.d
def one4 : V4 := ⟨1, 1, 1, 1⟩
def mone (n : Nat) : V4 := ⟨if 0 < n then -1 else 1, if 1 < n then -1 else 1, if 2 < n then -1 else 1, if 3 < n then -1 else 1⟩
def hitV (n : Nat) (m : M6) (x : V4) : Bool := (Nat.blt 0 n && eqV x (st1 m (mone n))) || (Nat.blt 1 n && eqV x (st2 m (mone n))) || (Nat.blt 2 n && eqV x (st3 m (mone n))) || (Nat.blt 3 n && eqV x (st4 m (mone n)))
def last (n : Nat) (m : M6) (k : V4 → V4) (v : V4) : Bool := eqV v one4 && (!Nat.blt 0 n || hitV n m (k (st1 m one4))) && (!Nat.blt 1 n || hitV n m (k (st2 m one4))) && (!Nat.blt 2 n || hitV n m (k (st3 m one4))) && (!Nat.blt 3 n || hitV n m (k (st4 m one4)))
def good (n : Nat) (m : M6) : Bool := run n m (last n m) 30 (mone n) id
def z0 : IP := (0, 0)
def chk1 : Bool := good 1 ⟨z0, z0, z0, z0, z0, z0⟩
def chk2 : Bool := opts.all fun p => good 2 ⟨p, z0, z0, z0, z0, z0⟩
def chk3 : Bool := opts.all fun p => opts.all fun q => opts.all fun r => !decide (0 < d3 p q r) || good 3 ⟨p, q, r, z0, z0, z0⟩
def chk4 : Bool := opts.all fun p => opts.all fun q => opts.all fun r => !decide (0 < d3 p q r) || opts.all fun s => opts.all fun t => !decide (0 < d3 p s t) || opts.all fun u => !decide (0 < d3 q s u) || !decide (0 < d3 r t u) || !decide (0 < d4 p q r s t u) || good 4 ⟨p, q, r, s, t, u⟩

/-! What the run means -/

theorem negB_iff (x : Int) : negB x = true ↔ x < 0 := by
  cases x with
  | ofNat n => simp [negB]
  | negSucc n => simp [negB]

def crd (v : V4) : Nat → Int
  | 0 => v.a
  | 1 => v.b
  | 2 => v.c
  | 3 => v.d
  | _ => 0
def cvt (n : Nat) (v : V4) : Pos := fun k => if k < n then crd v k else 0
def m6 (c : List (List Int)) : M6 := ⟨(ent c 0 1, ent c 1 0), (ent c 0 2, ent c 2 0), (ent c 1 2, ent c 2 1), (ent c 0 3, ent c 3 0), (ent c 1 3, ent c 3 1), (ent c 2 3, ent c 3 2)⟩

theorem crd_step {c : List (List Int)} (hC : Cartan c) (i : Nat) (hi : i < c.length) (v : V4) (k : Nat) (hk : k < c.length) : crd (stp (m6 c) i v) k = crd v k - crd v i * ent c k i := by
  have h4 := hC.le
  have d := (matOk hC).diag
  have hi4 : i = 0 ∨ i = 1 ∨ i = 2 ∨ i = 3 := by omega
  have hk4 : k = 0 ∨ k = 1 ∨ k = 2 ∨ k = 3 := by omega
  rcases hi4 with rfl | rfl | rfl | rfl <;> rcases hk4 with rfl | rfl | rfl | rfl <;> first
    | rfl
    | (rw [d _ hk]; rfl)

theorem cvt_step {c : List (List Int)} (hC : Cartan c) (i : Nat) (hi : i < c.length) (v : V4) : sr (ent c) i (cvt c.length v) = cvt c.length (stp (m6 c) i v) := by
  funext k
  show cvt c.length v k - cvt c.length v i * ent c k i = cvt c.length (stp (m6 c) i v) k
  unfold cvt
  by_cases hk : k < c.length
  · rw [if_pos hk, if_pos hi, if_pos hk, crd_step hC i hi v k hk]
  · rw [if_neg hk, if_neg hk, ent_off (by omega)]
    simp

def acts (m : M6) : List Nat → V4 → V4
  | [], x => x
  | i :: w, x => stp m i (acts m w x)

end Go.Proofs.YtgliajcgcbnemaaGreatDoor.Hx

namespace Go.Proofs.YtgliajcgcbnemaaGreatDoor.Hx
open Go.RowKit

theorem detZ2 (a b c d : Int) : detZ 2 [[a, b], [c, d]] = a * d - b * c := by
  have e : detZ 2 [[a, b], [c, d]] = 0 + 1 * (a * (0 + 1 * (d * 1))) + -1 * (b * (0 + 1 * (c * 1))) := rfl
  rw [e]
  simp only [Int.zero_add, Int.one_mul, Int.mul_one, Int.neg_mul, Int.sub_eq_add_neg]
theorem detZ3 (a b c d e f g h i : Int) : detZ 3 [[a, b, c], [d, e, f], [g, h, i]] = D3 a b c d e f g h i := by
  have e : detZ 3 [[a, b, c], [d, e, f], [g, h, i]] = 0 + 1 * (a * detZ 2 [[e, f], [h, i]]) + -1 * (b * detZ 2 [[d, f], [g, i]]) + 1 * (c * detZ 2 [[d, e], [g, h]]) := rfl
  rw [e, detZ2, detZ2, detZ2]
  unfold D3
  simp only [Int.zero_add, Int.one_mul, Int.neg_mul, Int.sub_eq_add_neg]
theorem detZ4 (a b c d e f g h i j k l m n o p : Int) : detZ 4 [[a, b, c, d], [e, f, g, h], [i, j, k, l], [m, n, o, p]] = a * D3 f g h j k l n o p - b * D3 e g h i k l m o p + c * D3 e f h i j l m n p - d * D3 e f g i j k m n o := by
  have e : detZ 4 [[a, b, c, d], [e, f, g, h], [i, j, k, l], [m, n, o, p]] = 0 + 1 * (a * detZ 3 [[f, g, h], [j, k, l], [n, o, p]]) + -1 * (b * detZ 3 [[e, g, h], [i, k, l], [m, o, p]]) + 1 * (c * detZ 3 [[e, f, h], [i, j, l], [m, n, p]]) + -1 * (d * detZ 3 [[e, f, g], [i, j, k], [m, n, o]]) := rfl
  rw [e, detZ3, detZ3, detZ3, detZ3]
  simp only [Int.zero_add, Int.one_mul, Int.neg_mul, Int.sub_eq_add_neg]

theorem dt_2 (c : List (List Int)) (m i j : Nat) (h : setB m = [(i : Int), (j : Int)]) : dt c m = ent c i i * ent c j j - ent c i j * ent c j i := by
  unfold dt
  rw [h]
  exact detZ2 _ _ _ _
theorem dt_3 (c : List (List Int)) (m i j k : Nat) (h : setB m = [(i : Int), (j : Int), (k : Int)]) : dt c m = D3 (ent c i i) (ent c i j) (ent c i k) (ent c j i) (ent c j j) (ent c j k) (ent c k i) (ent c k j) (ent c k k) := by
  unfold dt
  rw [h]
  exact detZ3 _ _ _ _ _ _ _ _ _
theorem dt_4 (c : List (List Int)) : dt c 15 = detZ 4 [[ent c 0 0, ent c 0 1, ent c 0 2, ent c 0 3], [ent c 1 0, ent c 1 1, ent c 1 2, ent c 1 3], [ent c 2 0, ent c 2 1, ent c 2 2, ent c 2 3], [ent c 3 0, ent c 3 1, ent c 3 2, ent c 3 3]] := rfl

theorem allPos_get {c : List (List Int)} (h : allPos c = true) (m : Nat) (h1 : 1 ≤ m) (h2 : m < 2 ^ c.length) : 0 < dt c m := by
  have := of_decide_eq_true (List.all_eq_true.1 h (m - 1) (List.mem_range.2 (by omega)))
  have e : m - 1 + 1 = m := by omega
  rw [e] at this
  exact this

theorem mem_opts {a b : Int} (ha : -3 ≤ a ∧ a ≤ 0) (hb : -3 ≤ b ∧ b ≤ 0) (hz : a = 0 → b = 0) (hz' : b = 0 → a = 0) (h : 0 < 2 * 2 - a * b) : (a, b) ∈ opts := by
  have h1 : a = 0 ∨ a = -1 ∨ a = -2 ∨ a = -3 := by omega
  have h2 : b = 0 ∨ b = -1 ∨ b = -2 ∨ b = -3 := by omega
  rcases h1 with rfl | rfl | rfl | rfl <;> rcases h2 with rfl | rfl | rfl | rfl <;> first
    | decide
    | (exfalso; omega)

theorem pair_opts {c : List (List Int)} (hC : Cartan c) (hp : allPos c = true) {i j m : Nat} (hi : i < c.length) (hj : j < c.length) (hij : i ≠ j) (h1 : 1 ≤ m) (h2 : m < 2 ^ c.length) (h : setB m = [(i : Int), (j : Int)]) : (ent c i j, ent c j i) ∈ opts := by
  have M := matOk hC
  have hd := allPos_get hp m h1 h2
  rw [dt_2 c m i j h, M.diag i hi, M.diag j hj] at hd
  exact mem_opts (M.off i j hi hj hij) (M.off j i hj hi (Ne.symm hij)) (M.zero i j hi hj) (M.zero j i hj hi) hd

theorem tri_pos {c : List (List Int)} (hC : Cartan c) (hp : allPos c = true) {i j k m : Nat} (hi : i < c.length) (hj : j < c.length) (hk : k < c.length) (h1 : 1 ≤ m) (h2 : m < 2 ^ c.length) (h : setB m = [(i : Int), (j : Int), (k : Int)]) : 0 < d3 (ent c i j, ent c j i) (ent c i k, ent c k i) (ent c j k, ent c k j) := by
  have M := matOk hC
  have hd := allPos_get hp m h1 h2
  rw [dt_3 c m i j k h, M.diag i hi, M.diag j hj, M.diag k hk] at hd
  exact hd

theorem ent_col {c : List (List Int)} (hC : Cartan c) {k j : Nat} (hj : c.length ≤ j) : ent c k j = 0 := by
  by_cases hk : k < c.length
  · unfold ent
    have := hC.row k hk
    have h2 : (c.getD k []).length ≤ j := by omega
    simp only [List.getD] at h2 ⊢
    rw [List.getElem?_eq_none h2]
    rfl
  · exact ent_off (by omega)

/-- The opposite of rho. -/
def opp (c : List (List Int)) : List Int := List.replicate c.length (-1)
def longest (c : List (List Int)) : List Int := nf c 31 (opp c)

theorem pos_one {c : List (List Int)} (hC : Cartan c) : posOf (List.replicate c.length 1) = cvt c.length one4 := by
  have h4 := hC.le
  funext k
  unfold cvt
  by_cases hk : k < c.length
  · rw [if_pos hk]
    have : k = 0 ∨ k = 1 ∨ k = 2 ∨ k = 3 := by omega
    rcases this with rfl | rfl | rfl | rfl <;> simp [posOf, crd, one4, List.getD, hk]
  · rw [if_neg hk]
    have : c.length ≤ k := by omega
    simp [posOf, List.getD, this]

end Go.Proofs.YtgliajcgcbnemaaGreatDoor.Hx

namespace Go.Proofs.YtgliajcgcbnemaaGreatDoor.Hx
open Go.RowKit
variable {dm : Bool}

def longestE (c : List (List Int)) : List Int := if isFinite c then longest c else []
theorem fin_parts {c : List (List Int)} (h : isFinite c = true) : Cartan c ∧ allPos c = true := by
  simp only [isFinite, Bool.and_eq_true] at h
  exact ⟨(isCartan_iff c).1 h.1, h.2⟩
def mixTo (n k : Nat) : List Int := (List.range n).map fun t => if t < k then (-1 : Int) else 1
end Go.Proofs.YtgliajcgcbnemaaGreatDoor.Hx

namespace Go.Proofs.YtgliajcgcbnemaaGreatDoor.Hx
open Go.RowKit

def kidB (c : List (List Int)) (v : List Int) (i : Nat) : Bool := decide (0 < v.getD i 0) && decide (fd (reflW c i v) = i)
/-- The places one step longer for which this one is the first step back. -/
def kids (c : List (List Int)) (v : List Int) : List (List Int) := ((List.range c.length).filter (kidB c v)).map fun i => reflW c i v
def shell (c : List (List Int)) : Nat → List (List Int)
  | 0 => [List.replicate c.length 1]
  | n + 1 => (shell c n).flatMap (kids c)

theorem PlayL.upL {c : List (List Int)} (hC : Cartan c) {n : Nat} {v : List Int} (P : PlayL c n v) (hn : n ≤ 30) {i : Nat} (hi : i < c.length) (h : 0 < v.getD i 0) : PlayL c (n + 1) (reflW c i v) :=
  ⟨by rw [reflW_length]; exact P.1, by rw [pos_refl hC P hn hi]; exact P.2.up (matOk hC) hi h⟩

theorem play_zero {c : List (List Int)} {v : List Int} (P : PlayL c 0 v) : v = List.replicate c.length 1 := by
  apply posOf_inj (by simp [P.1])
  funext k
  by_cases hk : k < c.length
  · have h1 : posOf v k = 1 := by
      cases P.2 with
      | done h => exact h k hk
    rw [h1]
    simp [posOf, List.getD, hk]
  · have h1 : v.length ≤ k := by rw [P.1]; omega
    simp [posOf, List.getD, List.getElem?_eq_none h1, hk]

theorem kid_mem {c : List (List Int)} {v x : List Int} : x ∈ kids c v ↔ ∃ i, i < c.length ∧ 0 < v.getD i 0 ∧ fd (reflW c i v) = i ∧ x = reflW c i v := by
  unfold kids kidB
  simp only [List.mem_map, List.mem_filter, List.mem_range, Bool.and_eq_true, decide_eq_true_eq]
  constructor
  · rintro ⟨i, ⟨h1, h2, h3⟩, rfl⟩
    exact ⟨i, h1, h2, h3, rfl⟩
  · rintro ⟨i, h1, h2, h3, rfl⟩
    exact ⟨i, ⟨h1, h2, h3⟩, rfl⟩

theorem kid_up {c : List (List Int)} (hC : Cartan c) {n : Nat} {u x : List Int} (P : PlayL c n u) (hn : n ≤ 29) (h : x ∈ kids c u) : PlayL c (n + 1) x ∧ reflW c (fd x) x = u := by
  obtain ⟨i, hi, h0, hf, rfl⟩ := kid_mem.1 h
  have P1 := P.upL hC (by omega) hi h0
  refine ⟨P1, ?_⟩
  rw [hf]
  exact reflW_twice hC P (by omega) hi P1 (by omega)

theorem mem_shell {c : List (List Int)} (hC : Cartan c) : ∀ (n : Nat) (v : List Int), n ≤ 30 → (v ∈ shell c n ↔ PlayL c n v)
  | 0, v, _ => by
    show v ∈ [List.replicate c.length 1] ↔ _
    rw [List.mem_singleton]
    exact ⟨fun e => by rw [e]; exact PlayL.ones c, play_zero⟩
  | n + 1, v, hn => by
    show v ∈ (shell c n).flatMap (kids c) ↔ _
    rw [List.mem_flatMap]
    constructor
    · rintro ⟨u, hu, hv⟩
      exact (kid_up hC ((mem_shell hC n u (by omega)).1 hu) (by omega) hv).1
    · intro P
      have hlt : fd v < v.length := Classical.byContradiction fun h => by
        have := (P.2.stop fun i hi => fd_end h i (by rw [P.1]; exact hi)).1
        omega
      have hneg := fd_lt hlt
      have hc : fd v < c.length := by rw [← P.1]; exact hlt
      obtain ⟨m, hm, P2⟩ := P.down hC hn hc hneg
      obtain rfl : m = n := by omega
      have ht := reflW_twice hC P hn hc P2 (by omega)
      have hpos : 0 < (reflW c (fd v) v).getD (fd v) 0 := by
        have e := congrFun (pos_refl hC P hn hc) (fd v)
        rw [sr_at ((matOk hC).diag _ hc)] at e
        have e2 : posOf v (fd v) = v.getD (fd v) 0 := rfl
        have e3 : posOf (reflW c (fd v) v) (fd v) = (reflW c (fd v) v).getD (fd v) 0 := rfl
        omega
      exact ⟨_, (mem_shell hC m _ (by omega)).2 P2, kid_mem.2 ⟨fd v, hc, hpos, by rw [ht], ht.symm⟩⟩

/-! ### How many there are -/

def sub (c : List (List Int)) : Nat → List Int → List (List Int)
  | 0, v => [v]
  | k + 1, v => (kids c v).flatMap (sub c k)
theorem sub_step (c : List (List Int)) : ∀ (k : Nat) (v : List Int), sub c (k + 1) v = (sub c k v).flatMap (kids c)
  | 0, v => by
    show (kids c v).flatMap (fun u => [u]) = [v].flatMap (kids c)
    simp
  | k + 1, v => by
    show (kids c v).flatMap (sub c (k + 1)) = ((kids c v).flatMap (sub c k)).flatMap (kids c)
    rw [List.flatMap_assoc]
    congr 1
    funext u
    exact sub_step c k u
theorem shell_sub (c : List (List Int)) : ∀ n, shell c n = sub c n (List.replicate c.length 1)
  | 0 => rfl
  | n + 1 => by
    rw [sub_step, ← shell_sub c n]
    rfl

/-- How many places lie above one, itself among them; 1000 where that goes on too far. -/
def cntT (c : List (List Int)) : Nat → List Int → Nat
  | 0, _ => 1000
  | f + 1, v => 1 + ((kids c v).map (cntT c f)).sum

theorem le_sum {l : List Nat} {x : Nat} (h : x ∈ l) : x ≤ l.sum := by
  induction l with
  | nil => simp at h
  | cons a t ih =>
    rw [List.sum_cons]
    rcases List.mem_cons.1 h with rfl | h
    · omega
    · have := ih h
      omega
theorem sum_add (f g : Nat → Nat) : ∀ l : List Nat, (l.map fun k => f k + g k).sum = (l.map f).sum + (l.map g).sum
  | [] => rfl
  | a :: t => by
    simp only [List.map_cons, List.sum_cons, sum_add f g t]
    omega
theorem cnt_stop (c : List (List Int)) : ∀ (f : Nat) (v : List Int), cntT c f v < 1000 → sub c f v = []
  | 0, v, h => by simp [cntT] at h
  | f + 1, v, h => by
    rw [cntT] at h
    show (kids c v).flatMap (sub c f) = []
    rw [List.flatMap_eq_nil_iff]
    intro u hu
    have := le_sum (List.mem_map_of_mem (f := cntT c f) hu)
    exact cnt_stop c f u (by omega)
theorem cnt_tot (c : List (List Int)) : ∀ (f : Nat) (v : List Int), ((List.range f).map fun k => (sub c k v).length).sum ≤ cntT c f v
  | 0, v => by simp
  | f + 1, v => by
    have go : ∀ B : List (List Int), ((List.range f).map fun k => (B.flatMap (sub c k)).length).sum ≤ (B.map (cntT c f)).sum := by
      intro B
      induction B with
      | nil =>
        simp only [List.flatMap_nil, List.length_nil, List.map_nil, List.sum_nil]
        have : ∀ l : List Nat, (l.map fun _ => 0).sum = 0 := fun l => by
          induction l with
          | nil => rfl
          | cons a t ih => simp only [List.map_cons, List.sum_cons, ih]
        rw [this]
        exact Nat.le_refl _
      | cons b t ih =>
        simp only [List.flatMap_cons, List.length_append, List.map_cons, List.sum_cons]
        rw [sum_add]
        have := cnt_tot c f b
        omega
    have h := go (kids c v)
    rw [cntT, List.range_succ_eq_map, List.map_cons, List.sum_cons, List.map_map]
    show 1 + _ ≤ _
    exact Nat.add_le_add_left h 1

theorem shell_none {c : List (List Int)} (hN : cntT c 30 (List.replicate c.length 1) ≤ 200) : shell c 30 = [] := by
  rw [shell_sub]
  exact cnt_stop c 30 _ (by omega)
theorem shell_tot {c : List (List Int)} (hN : cntT c 30 (List.replicate c.length 1) ≤ 200) : ((List.range 30).map fun k => (shell c k).length).sum ≤ 200 := by
  have := cnt_tot c 30 (List.replicate c.length 1)
  have e : (fun k => (shell c k).length) = fun k => (sub c k (List.replicate c.length 1)).length := by
    funext k
    rw [shell_sub]
  rw [e]
  omega

/-! ### The elements in their order -/

def wordsAt (c : List (List Int)) (n : Nat) : List (List Int) := insW ((shell c n).map (nf c 31))
def elemsTo (c : List (List Int)) (n : Nat) : List (List Int) := (List.range n).flatMap (wordsAt c)
def elems (c : List (List Int)) : List (List Int) := elemsTo c 30

theorem elemsTo_zero (c : List (List Int)) : elemsTo c 0 = [] := rfl
theorem elemsTo_succ (c : List (List Int)) (n : Nat) : elemsTo c (n + 1) = elemsTo c n ++ wordsAt c n := by
  unfold elemsTo
  rw [List.range_succ, List.flatMap_append]
  simp
theorem mem_wordsAt {c : List (List Int)} (hC : Cartan c) {n : Nat} (hn : n ≤ 30) {w : List Int} : w ∈ wordsAt c n ↔ ∃ v, PlayL c n v ∧ w = nf c 31 v := by
  unfold wordsAt
  rw [(insW_facts _).2.1]
  constructor
  · intro h
    obtain ⟨v, hv, rfl⟩ := List.mem_map.1 h
    exact ⟨v, (mem_shell hC n v hn).1 hv, rfl⟩
  · rintro ⟨v, hv, rfl⟩
    exact List.mem_map.2 ⟨v, (mem_shell hC n v hn).2 hv, rfl⟩
theorem wordsAt_len {c : List (List Int)} (hC : Cartan c) {n : Nat} (hn : n ≤ 30) {w : List Int} (h : w ∈ wordsAt c n) : w.length = n := by
  obtain ⟨v, P, rfl⟩ := (mem_wordsAt hC hn).1 h
  exact nf_len hC n v 31 P hn (by omega)
theorem mem_elemsTo {c : List (List Int)} (hC : Cartan c) {m : Nat} (hm : m ≤ 30) {w : List Int} : w ∈ elemsTo c m ↔ ∃ n v, n < m ∧ PlayL c n v ∧ w = nf c 31 v := by
  unfold elemsTo
  rw [List.mem_flatMap]
  constructor
  · rintro ⟨n, hn, h⟩
    have hn := List.mem_range.1 hn
    obtain ⟨v, P, e⟩ := (mem_wordsAt hC (by omega)).1 h
    exact ⟨n, v, hn, P, e⟩
  · rintro ⟨n, v, hn, P, e⟩
    exact ⟨n, List.mem_range.2 hn, (mem_wordsAt hC (by omega)).2 ⟨v, P, e⟩⟩
theorem elemsTo_sorted {c : List (List Int)} (hC : Cartan c) : ∀ m, m ≤ 30 → SortedW (elemsTo c m)
  | 0, _ => List.Pairwise.nil
  | m + 1, h => by
    rw [elemsTo_succ]
    refine List.pairwise_append.2 ⟨elemsTo_sorted hC m (by omega), (insW_facts _).1, fun a ha b hb => ?_⟩
    obtain ⟨n, v, hn, P, rfl⟩ := (mem_elemsTo hC (by omega)).1 ha
    have h1 := nf_len hC n v 31 P (by omega) (by omega)
    have h2 := wordsAt_len hC (by omega) hb
    exact cmpW_lt.2 (Or.inl (by omega))
theorem elemsTo_len (c : List (List Int)) : ∀ m, (elemsTo c m).length ≤ ((List.range m).map fun k => (shell c k).length).sum
  | 0 => by simp [elemsTo]
  | m + 1 => by
    rw [elemsTo_succ, List.length_append, List.range_succ, List.map_append, List.sum_append]
    have h1 := elemsTo_len c m
    have h2 : (wordsAt c m).length ≤ (shell c m).length := by
      have := (insW_facts ((shell c m).map (nf c 31))).2.2
      rw [List.length_map] at this
      exact this
    simp only [List.map_cons, List.map_nil, List.sum_cons, List.sum_nil]
    omega
theorem sum_mono (f : Nat → Nat) {m : Nat} : ∀ n, m ≤ n → ((List.range m).map f).sum ≤ ((List.range n).map f).sum
  | 0, h => by
    obtain rfl : m = 0 := by omega
    exact Nat.le_refl _
  | n + 1, h => by
    by_cases e : m = n + 1
    · subst e
      exact Nat.le_refl _
    · have := sum_mono f n (show m ≤ n by omega)
      rw [List.range_succ, List.map_append, List.sum_append]
      omega
theorem elems_len {c : List (List Int)} (hN : cntT c 30 (List.replicate c.length 1) ≤ 200) : (elems c).length ≤ 200 := Nat.le_trans (elemsTo_len c 30) (shell_tot hN)
theorem shell_room {c : List (List Int)} (hN : cntT c 30 (List.replicate c.length 1) ≤ 200) {n : Nat} (hn : n < 30) : (elemsTo c n).length + (shell c n).length ≤ 200 := by
  have h1 := elemsTo_len c n
  have h2 := sum_mono (fun k => (shell c k).length) (m := n + 1) 30 (by omega)
  have h3 := shell_tot hN
  rw [List.range_succ, List.map_append, List.sum_append] at h2
  simp only [List.map_cons, List.map_nil, List.sum_cons, List.sum_nil] at h2
  omega

theorem play_short {c : List (List Int)} (hC : Cartan c) (hN : cntT c 30 (List.replicate c.length 1) ≤ 200) {n : Nat} {v : List Int} (P : PlayL c n v) (hn : n ≤ 30) : n < 30 := by
  by_cases e : n = 30
  · subst e
    have := (mem_shell hC 30 v (by omega)).2 P
    rw [shell_none hN] at this
    simp at this
  · omega
theorem mem_elems {c : List (List Int)} (hC : Cartan c) (hN : cntT c 30 (List.replicate c.length 1) ≤ 200) {n : Nat} {v : List Int} (P : PlayL c n v) (hn : n ≤ 30) : nf c 31 v ∈ elems c :=
  (mem_elemsTo hC (Nat.le_refl _)).2 ⟨n, v, play_short hC hN P hn, P, rfl⟩
/-- What an element of the list is. -/
theorem elems_word {c : List (List Int)} (hC : Cartan c) {w : List Int} (h : w ∈ elems c) : w.length ≤ 29 ∧ lettersOk c w = true ∧ normF c w = w := by
  obtain ⟨n, v, hn, P, rfl⟩ := (mem_elemsTo hC (Nat.le_refl _)).1 h
  have h1 := nf_len hC n v 31 P (by omega) (by omega)
  refine ⟨by omega, nf_letters hC n v 31 P (by omega) (by omega), ?_⟩
  unfold normF
  rw [nf_image hC n v 31 P (by omega) (by omega)]
theorem elems_next {c : List (List Int)} (hC : Cartan c) (hN : cntT c 30 (List.replicate c.length 1) ≤ 200) {w : List Int} (hl : w.length ≤ 29) (hw : lettersOk c w = true) {i : Int} (hi : isPoint c i = true) : normF c (w ++ [i]) ∈ elems c := by
  have hwi : lettersOk c (w ++ [i]) = true := letters_app.2 ⟨hw, letters_cons.2 ⟨hi, rfl⟩⟩
  obtain ⟨m, hm, P⟩ := play_image hC hwi (by simp; omega)
  simp only [List.length_append, List.length_singleton] at hm
  exact mem_elems hC hN P (by omega)

/-- A list of elements that has what is longer by a letter has all. -/
theorem elems_all {c : List (List Int)} (hC : Cartan c) {L : List (List Int)} (h0 : [] ∈ L) (h : ∀ w ∈ L, ∀ i : Nat, i < c.length → w.length < (normF c (w ++ [(i : Int)])).length → normF c (w ++ [(i : Int)]) ∈ L) :
    ∀ (n : Nat), n < 30 → ∀ v, PlayL c n v → nf c 31 v ∈ L := by
  intro n
  induction n using Nat.strongRecOn with
  | _ n ih =>
    intro hn v P
    have hl := nf_len hC n v 31 P (by omega) (by omega)
    have hlet := nf_letters hC n v 31 P (by omega) (by omega)
    have him := nf_image hC n v 31 P (by omega) (by omega)
    by_cases h00 : n = 0
    · have : nf c 31 v = [] := List.length_eq_zero_iff.1 (by omega)
      rw [this]
      exact h0
    have hne : nf c 31 v ≠ [] := fun e => by rw [e] at hl; simp at hl; omega
    have e := List.dropLast_concat_getLast hne
    generalize (nf c 31 v).getLast hne = i at e
    have hdl : (nf c 31 v).dropLast.length = n - 1 := by simp [hl]
    generalize (nf c 31 v).dropLast = w' at e hdl
    rw [← e] at hlet
    obtain ⟨hw', hi'⟩ := letters_app.1 hlet
    have hi := (letters_cons.1 hi').1
    have hip := point_of hi
    obtain ⟨m, hm, P'⟩ := play_image hC hw' (by omega)
    have hm' := ih m (by omega) (by omega) _ P'
    have hl0 := nf_len hC m _ 31 P' (by omega) (by omega)
    have hlet0 := nf_letters hC m _ 31 P' (by omega) (by omega)
    have him0 := nf_image hC m _ 31 P' (by omega) (by omega)
    have L1 := faithful hC hlet0 hw' (by omega) (by omega) him0
    have hli0 : lettersOk c (nf c 31 (imageOf c w') ++ [i]) = true := letters_app.2 ⟨hlet0, hi'⟩
    have e2 := lin_image hC (Lin.app L1 (Lin.refl c [i])) hli0 hlet (by simp; omega) (by simp; omega)
    obtain ⟨j, rfl⟩ : ∃ j : Nat, i = (j : Int) := ⟨i.toNat, by omega⟩
    have e3 : normF c (nf c 31 (imageOf c w') ++ [(j : Int)]) = nf c 31 v := by
      unfold normF
      rw [e2, e, him]
    have := h _ hm' j (by omega) (by rw [e3, hl]; omega)
    rw [e3] at this
    exact this

/-- A word put into its place leaves what stands before it. -/
theorem putW_keep {w : List Int} : ∀ {k : Nat} {L : List (List Int)}, k < L.length → (∀ j, j ≤ k → 0 < cmpW w (L.getD j [])) → (putW w L).take (k + 1) = L.take (k + 1)
  | k, [], h, _ => by simp at h
  | k, a :: t, h, hb => by
    have h0 := hb 0 (Nat.zero_le _)
    have ea : (a :: t).getD 0 [] = a := rfl
    rw [ea] at h0
    have ep : putW w (a :: t) = a :: putW w t := by
      rw [putW, if_neg (by omega), if_neg (by omega)]
    rw [ep, List.take_succ_cons, List.take_succ_cons]
    cases k with
    | zero => simp
    | succ k =>
      rw [putW_keep (by simpa using h) (fun j hj => by
        have := hb (j + 1) (by omega)
        simpa using this)]
theorem sorted_len {L : List (List Int)} (h : SortedW L) {i j : Nat} (hij : i ≤ j) (hj : j < L.length) : (L.getD i []).length ≤ (L.getD j []).length := by
  by_cases e : i = j
  · subst e
    exact Nat.le_refl _
  · have h1 := List.pairwise_iff_getElem.1 h i j (by omega) hj (by omega)
    have e1 : L.getD i [] = L[i] := by simp [List.getD, show i < L.length by omega]
    have e2 : L.getD j [] = L[j] := by simp [List.getD, hj]
    rw [e1, e2]
    rcases cmpW_lt.1 h1 with h2 | h2 <;> omega

end Go.Proofs.YtgliajcgcbnemaaGreatDoor.Hx

namespace Go.Proofs.YtgliajcgcbnemaaGreatDoor.Hx
open Go.RowKit
variable {dm : Bool}

def powTo (c : List (List Int)) (w : List Int) : Nat → Option (List Int)
  | 0 => some []
  | k + 1 => match powTo c w k with
    | none => none
    | some y => if mulOk c y w then some (mul c y w) else none
def in60 (k : Int) : Bool := decide (0 ≤ k) && decide (k ≤ 60)
def powOk (c : List (List Int)) (w : List Int) (k : Int) : Bool := isWord c w && in60 k && (powTo c w k.toNat).isSome
def pow (c : List (List Int)) (w : List Int) (k : Int) : List Int := if powOk c w k then (powTo c w k.toNat).getD [] else []

def exAt (c : List (List Int)) (w : List Int) (n : Int) (k : Nat) : Bool := decide (imageOf c (del w k) = imageOf c (n :: w))
def exIdx (c : List (List Int)) (w : List Int) (n : Int) : Int :=
  if isReduced c w && decide (n ∈ leftDescents c w) then
    match (List.range w.length).find? (exAt c w n) with
    | some k => k
    | none => -1
  else -1
/-- Letters left out at told places, two by two. -/
def replay : List Int → List Int → Option (List Int)
  | x, i :: j :: l => if i < 0 ∨ j ≤ i ∨ (x.length : Int) ≤ j then none else replay (del (del x j) i) l
  | x, _ => some x
def repW (w l : List Int) : List Int := (replay w l).getD w
def repOk (w l : List Int) : Bool := (replay w l).isSome && ((l.length : Int).tmod 2 == 0)
/-- Pairs of letters left out, as often as f. -/
def red (c : List (List Int)) : Nat → List Int → List Int → List Int × List Int
  | 0, x, o => (x, o)
  | f + 1, x, o => if (delPair c x).2.2 then red c f (del (del x (delPair c x).2.1) (delPair c x).1) (o ++ [(delPair c x).1, (delPair c x).2.1]) else (x, o)
end Go.Proofs.YtgliajcgcbnemaaGreatDoor.Hx

namespace Go.Proofs.YtgliajcgcbnemaaGreatDoor.Hx
open Go.RowKit
variable {dm : Bool}

theorem mem_take_snoc {l : List Int} {n : Int} {k : Nat} (hk : k < l.length) (h : n ∉ l.take k) (h2 : l.getD k 0 ≠ n) : n ∉ l.take (k + 1) := by
  rw [take_snoc l hk]
  simp only [List.mem_append, List.mem_singleton, not_or]
  exact ⟨h, fun e => h2 e.symm⟩
theorem mem_at {l : List Int} {n : Int} {k : Nat} (hk : k < l.length) (h2 : l.getD k 0 = n) : n ∈ l := by
  have : l[k] = n := by simpa [List.getD, hk] using h2
  rw [← this]
  exact List.getElem_mem hk
theorem lib_Index (h : Heap) (x : H0) (l : List Int) (n : Int) (hx : Ints h x l) (hl : l.length ≤ 2199023255552) :
    HCalls dm Tryz.prog 280 [.s x, I n] h (fun r h' => ∃ k : Int, r = I k ∧ (0 ≤ k ↔ n ∈ l) ∧ h' = h) := by
  refine calls_of_hFun (m := 0) kd_ok mixed Tryz.func280 rfl (by kernel_rfl) rfl rfl (of_decide_eq_true rfl) ?_; unfold hFun; (conv => whnf)
  refine ⟨rfl, hx.len ?_⟩
  (conv => whnf)
  refine HLoop.intro [8] [9, 10, 5, 11, 12, 13, 14, 15, 16, 17, 4, 18, 8] (by kernel_rfl) (by kernel_rfl) (fun vs h' => ∃ k : Nat, vs = [I k] ∧ k ≤ l.length ∧ h' = h ∧ n ∉ l.take k) (fun vs _ => l.length - natAt vs 0) ⟨0, rfl, by omega, rfl, by simp⟩ ?_
  rintro vs h' ⟨k, rfl, hk, hh, hb⟩
  subst h'
  (conv => whnf)
  refine HIf.dec (fun hlt => ?_) (fun hge => ?_)
  · (conv => whnf)
    refine ⟨rfl, Ints.idxN hx (by omega) (fun p hp => ?_)⟩
    (conv => whnf)
    refine ⟨rfl, hp.load ?_⟩
    (conv => whnf)
    refine HIf.beq (fun he => ?_) (fun hne => ?_)
    · (conv => whnf)
      refine ⟨_, rfl, ⟨fun _ => ?_, fun _ => by omega⟩, rfl⟩
      first | exact mem_at (by omega) he | exact mem_at (by omega) he.symm
    · (conv => whnf)
      refine HArith.fits (by omega) (by omega) ?_
      (conv => whnf)
      refine ⟨⟨k + 1, rfl, by omega, rfl, ?_⟩, by show l.length - (k + 1) < l.length - k; omega⟩
      first | exact mem_take_snoc (by omega) hb hne | exact mem_take_snoc (by omega) hb (Ne.symm hne)
  · have e : k = l.length := by omega
    subst e
    rw [List.take_length] at hb
    (conv => whnf)
    exact ⟨_, rfl, ⟨fun h => by omega, fun h => absurd h hb⟩, rfl⟩

theorem lib_Contains (h : Heap) (x : H0) (l : List Int) (n : Int) (hx : Ints h x l) (hl : l.length ≤ 2199023255552) :
    HCalls dm Tryz.prog 263 [.s x, I n] h (fun r h' => r = B (decide (n ∈ l)) ∧ h' = h) := by
  refine calls_of_hFun (m := 0) kd_ok mixed Tryz.func263 rfl (by kernel_rfl) rfl rfl (of_decide_eq_true rfl) ?_; unfold hFun; (conv => whnf)
  refine (lib_Index _ _ l n hx hl).mono ?_
  rintro r h' ⟨k, rfl, hk, rfl⟩
  (conv => whnf)
  refine ⟨bEq ?_, rfl⟩
  by_cases h0 : n ∈ l
  · have := hk.2 h0
    simp [h0, this]
  · have : ¬ 0 ≤ k := fun h => h0 (hk.1 h)
    simp [h0]
    omega

theorem spec_l3Has (h : Heap) (x : H0) (l : List Int) (n : Int) (hx : Ints h x l) (hl : l.length ≤ 1048576) :
    HCalls dm Tryz.prog 248 [.s x, I n] h (fun r h' => r = B (decide (n ∈ l)) ∧ h' = h) := by
  refine calls_of_hFun (m := 0) kd_ok mixed Tryz.func248 rfl (by kernel_rfl) rfl rfl (of_decide_eq_true rfl) ?_; unfold hFun; (conv => whnf)
  refine HLoop.intro [5] [6, 7, 8, 9, 12, 13, 14, 15, 16, 17, 4, 10, 11, 5] (by kernel_rfl) (by kernel_rfl) (fun vs h' => ∃ k : Nat, vs = [I k] ∧ k ≤ l.length ∧ h' = h ∧ n ∉ l.take k) (fun vs _ => l.length - natAt vs 0) ⟨0, rfl, by omega, rfl, by simp⟩ ?_
  rintro vs h' ⟨k, rfl, hk, hh, hb⟩
  subst h'
  (conv => whnf)
  refine ⟨rfl, hx.len ?_⟩
  (conv => whnf)
  refine HIf.dec (fun hlt => ?_) (fun hge => ?_)
  · (conv => whnf)
    refine ⟨rfl, Ints.idxN hx (by omega) (fun p hp => ?_)⟩
    (conv => whnf)
    refine ⟨rfl, hp.load ?_⟩
    (conv => whnf)
    refine HIf.beq (fun he => ?_) (fun hne => ?_)
    · (conv => whnf)
      exact ⟨bEq (decide_eq_true (mem_at (by omega) he)), rfl⟩
    · (conv => whnf)
      refine HArith.fits (by omega) (by omega) ?_
      (conv => whnf)
      exact ⟨⟨k + 1, rfl, by omega, rfl, mem_take_snoc (by omega) hb hne⟩, by show l.length - (k + 1) < l.length - k; omega⟩
  · have e : k = l.length := by omega
    subst e
    rw [List.take_length] at hb
    (conv => whnf)
    exact ⟨bEq (decide_eq_false hb), rfl⟩

end Go.Proofs.YtgliajcgcbnemaaGreatDoor.Hx

namespace Go.Proofs.YtgliajcgcbnemaaGreatDoor.Hx
open Go.RowKit
variable {dm : Bool}

/-- All rows of which F does not hold are as they were. -/
def KeepN (F : Nat → Prop) (h h' : Heap) : Prop := h.length ≤ h'.length ∧ ∀ q, q < h.length → ¬ F q → h'[q]? = h[q]?

def IntsN (F : Nat → Prop) (h : Heap) (x : H0) (l : List Int) : Prop := Ints h x l ∧ ∀ r off n, x = .sl r off n → ¬ F r

def RowsN (F : Nat → Prop) (h : Heap) (x : H0) (L : List (List Int)) : Prop :=
  ∃ xs : List H0, Shows h (.s x) xs ∧ (∀ r off n, x = .sl r off n → ¬ F r) ∧ xs.length = L.length ∧ ∀ (i : Nat) (y : H0) (l : List Int), xs[i]? = some y → L[i]? = some l → IntsN F h y l

theorem KeepN.ext {F : Nat → Prop} {hb h h' : Heap} (k : KeepN F h h') (hf : ∀ q, F q → hb.length ≤ q) (E : Ext hb h) : Ext hb h' :=
  ⟨Nat.le_trans E.1 k.1, fun q hq => by rw [k.2 q (Nat.lt_of_lt_of_le hq E.1) (fun f => by have := hf q f; omega)]; exact E.2 q hq⟩

/-- Nothing yet, or a slice of slices whose rows are of F. -/
def OutM (F : Nat → Prop) (h : Heap) (x : H0) (L : List (List Int)) : Prop :=
  (x = .pl (.slice none 0 0) ∧ L = []) ∨ ∃ r ρ, x = .sl r 0 L.length ∧ F r ∧ (∀ i, i < L.length → F (ρ i)) ∧ MatAt h r ρ L

theorem OwnM.lower {b c e : Nat} {h : Heap} {x : H0} {L : List (List Int)} (H : OwnM b e h x L) (k : c ≤ b) : OwnM c e h x L := by
  obtain ⟨r, ρ, g1, g2, g3, g4, m⟩ := H
  exact ⟨r, ρ, g1, by omega, g3, fun i hi => by have := g4 i hi; omega, m⟩

/-- What comes of the first k descents. -/
def spellTo (c : List (List Int)) (n : Nat) (v : List Int) (k : Nat) : List (List Int) := ((descs v v.length).take k).flatMap fun i => (spellW c n (reflW c i.toNat v)).map (i :: ·)

set_option maxHeartbeats 1000000 in
abbrev TM (y : H0) (b : Bool) : HV := .tup [y, .pl (.bool b)]

end Go.Proofs.YtgliajcgcbnemaaGreatDoor.Hx
