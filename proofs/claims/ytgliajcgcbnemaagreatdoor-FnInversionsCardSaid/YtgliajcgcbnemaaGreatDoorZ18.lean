/-
  Contracts of the word of a set of inversions, of the reference; of sets of inversions, of both.
  The word of a set of inversions: from the inversions of an element the reading of words comes back to the element. Plain theory on lists.
  Sets of points as bits, matrices of some points, determinants: plain functions, and the contracts of their makers.
-/
import Derived.Test.YtgliajcgcbnemaaGreatDoorZ17
namespace Go.Proofs.YtgliajcgcbnemaaGreatDoor.Hx
open Go.RowKit
variable {dm : Bool}

def isInvSet (c L : List (List Int)) : Bool := woiOk c L && decide ((woiW c L).length = L.length) && isReduced c (woiW c L)
theorem isInvSet_no {c L : List (List Int)} (h : woiOk c L = false) : isInvSet c L = false := by simp [isInvSet, h]
theorem isInvSet_len {c L : List (List Int)} (h : (woiW c L).length ≠ L.length) : isInvSet c L = false := by simp [isInvSet, h]
theorem isInvSet_on {c L : List (List Int)} (h : woiOk c L = true) (h2 : (woiW c L).length = L.length) : isInvSet c L = isReduced c (woiW c L) := by simp [isInvSet, h, h2]


set_option maxHeartbeats 6000000 in
theorem spec_WordOfInversions (h : Heap) (x0 : H0) (a0 : List (List Int)) (x1 : H0) (a1 : List (List Int)) (hx0 : Rows h x0 a0) (hx1 : Rows h x1 a1) (s0 : a0.length ≤ 1048576 ∧ tot a0 ≤ 1048576) (s1 : a1.length ≤ 1048576 ∧ tot a1 ≤ 1048576) :
    HCalls dm Tryz.prog 38 [.s x0, .s x1] h (fun r h' => ∃ y, r = T2 y (woiOk a0 a1) ∧ Fresh h h' y (woiW a0 a1)) := by
  obtain ⟨V, hV⟩ : ∃ V, V = woiOk a0 a1 := ⟨_, rfl⟩
  obtain ⟨W, hW⟩ : ∃ W, W = woiW a0 a1 := ⟨_, rfl⟩
  rw [← hV, ← hW]
  refine calls_of_hFun (m := 0) kd_ok mixed Tryz.func38 rfl (by kernel_rfl) rfl rfl (of_decide_eq_true rfl) ?_; unfold hFun; (conv => whnf)
  refine (spec_l2Copy _ _ a1 hx1 s1).mono ?_
  rintro r h1 ⟨y1, rfl, E1, OM1⟩
  have hE1 := E1.1
  (conv => whnf)
  have bad : ∀ h2, Ext h h2 → woiOk a0 a1 = false ∧ woiW a0 a1 = [] → V = false ∧ Fresh h (h2 ++ [Row.own []]) (.sl h2.length 0 0) W := fun h2 E hb => by
    rw [hV, hW, hb.1, hb.2]
    exact ⟨rfl, Fresh.of (E.trans (Ext.push _ _)) ((OwnR.push h2 []).own E.1)⟩
  refine HLit.empty ?_
  have Ea := E1.trans (Ext.push h1 [Row.own []])
  (conv => whnf)
  cases hic : isCartan a0
  · refine HLoop.intro [8, 6, 7] [16, 17, 18, 19, 20, 21, 24, 25, 26, 27, 4, 5, 9, 28, 29, 30, 31, 32, 33, 34, 35, 36, 37, 38, 39, 40, 41, 9, 42, 43, 44, 45, 46, 4, 5, 47, 10, 11, 48, 49, 50, 51, 54, 55, 56, 57, 58, 59, 60, 12, 63, 64, 65, 66, 67, 68, 69, 70, 62, 72, 73, 74, 75, 76, 77, 78, 79, 80, 71, 81, 82, 83, 84, 10, 61, 4, 5, 52, 53, 11, 85, 6, 86, 87, 88, 89, 7, 22, 23, 8] (by kernel_rfl) (by kernel_rfl) (fun vs h' => ∃ (x z : H0), vs = [I 0, .s x, .s z] ∧ Ext h h') (fun vs _ => 0) ⟨_, _, rfl, Ea⟩ ?_
    rintro vs h' ⟨x, z, rfl, E⟩
    have c0 : (0 : Int) ≤ 15 := by omega
    (conv => whnf)
    (repeat (first | (refine HIf.decT c0 ?_; conv => whnf) | (refine HIf.yes ?_; conv => whnf)))
    refine (spec_IsCartan _ _ _ (hx0.ext E) (by omega)).mono ?_
    rintro r h2 ⟨rfl, hh⟩
    subst h2
    obtain ⟨g1, g2⟩ := bad h' E (woi_off hic)
    subst g1
    rw [hic]
    (conv => whnf)
    (repeat (first | (refine HIf.decT c0 ?_; conv => whnf) | (refine HIf.yes ?_; conv => whnf) | (refine HIf.no ?_; conv => whnf)))
    refine HLit.empty ?_
    (conv => whnf)
    exact ⟨_, rfl, g2⟩
  have hC := (isCartan_iff a0).1 hic
  have h4 := hC.le
  have h4p := hC.pos
  refine HLoop.intro [8, 6, 7] [16, 17, 18, 19, 20, 21, 24, 25, 26, 27, 4, 5, 9, 28, 29, 30, 31, 32, 33, 34, 35, 36, 37, 38, 39, 40, 41, 9, 42, 43, 44, 45, 46, 4, 5, 47, 10, 11, 48, 49, 50, 51, 54, 55, 56, 57, 58, 59, 60, 12, 63, 64, 65, 66, 67, 68, 69, 70, 62, 72, 73, 74, 75, 76, 77, 78, 79, 80, 71, 81, 82, 83, 84, 10, 61, 4, 5, 52, 53, 11, 85, 6, 86, 87, 88, 89, 7, 22, 23, 8] (by kernel_rfl) (by kernel_rfl) (fun vs h' => ∃ (x z : H0) (r1 : Nat) (left : List (List Int)) (out : List Int), vs = [I (out.length : Nat), .s x, .s z] ∧ Ext h h' ∧ h.length ≤ r1 ∧ OwnR r1 h' z out ∧ RdM h r1 h' x left ∧ out.length ≤ 16 ∧ left.length ≤ a1.length ∧ tot left ≤ tot a1 ∧ woi a0 (16 - out.length) left out = woi a0 16 a1 []) (fun vs _ => 17 - natAt vs 0) ⟨y1, _, h1.length, a1, [], rfl, Ea, hE1, OwnR.push h1 [], Or.inr ⟨h.length, h1.length, by simp, Or.inr (Nat.le_refl _), OM1.ext (Ext.push _ _)⟩, by simp, Nat.le_refl _, Nat.le_refl _, rfl⟩ ?_
  rintro vs h' ⟨x, z, r1, left, out, rfl, E, hr1, Oz, RL, ho16, hll, hlt, hw⟩
  have hE := E.1
  have hRL := RL.rows E
  (conv => whnf)
  by_cases c15 : (out.length : Int) ≤ 15
  rotate_left
  · have eo : out.length = 16 := by omega
    rw [eo, woi] at hw
    obtain ⟨g1, g2⟩ := bad h' E (woi_none hw.symm)
    subst g1
    (repeat (first | (refine HIf.decF c15 ?_; conv => whnf) | (refine HIf.no ?_; conv => whnf)))
    refine HLit.empty ?_
    (conv => whnf)
    exact ⟨_, rfl, g2⟩
  obtain ⟨f, hf⟩ : ∃ f, 16 - out.length = f + 1 := ⟨15 - out.length, by omega⟩
  rw [hf] at hw
  (repeat (first | (refine HIf.decT c15 ?_; conv => whnf)))
  refine (spec_IsCartan _ _ _ (hx0.ext E) (by omega)).mono ?_
  rintro r h2 ⟨rfl, hh⟩
  subst h2
  rw [hic]
  (conv => whnf)
  (repeat (first | (refine HIf.decT c15 ?_; conv => whnf) | (refine HIf.yes ?_; conv => whnf)))
  refine ⟨rfl, hRL.len ?_⟩
  (conv => whnf)
  refine HIf.beq (fun hz0 => ?_) (fun hnz => ?_)
  · rw [woi_done (by omega)] at hw
    have hs := woi_some hic hw.symm
    have g1 : V = true := hV.trans hs.1
    have g2 : W = out := hW.trans hs.2
    subst g1
    subst g2
    (conv => whnf)
    exact ⟨_, rfl, Fresh.ofRow E Oz hr1⟩
  have hne : left.length ≠ 0 := by omega
  have hx0' := hx0.ext E
  (conv => whnf)
  refine HLoop.intro [9] [28, 29, 30, 31, 32, 33, 34, 35, 36, 37, 38, 39, 40, 41, 9] (by kernel_rfl) (by kernel_rfl) (fun vs h2 => ∃ k : Nat, vs = [I k] ∧ k ≤ a0.length ∧ Ext h' h2 ∧ ∀ t : Nat, t < k → simpleRoot a0 (t : Nat) ∉ left) (fun vs _ => a0.length - natAt vs 0) ⟨0, rfl, by omega, Ext.refl _, fun t ht => by omega⟩ ?_
  rintro vs h2 ⟨i, rfl, hk, E2, ha⟩
  have hx02 := hx0'.ext E2
  (conv => whnf)
  refine ⟨rfl, hx02.len ?_⟩
  (conv => whnf)
  by_cases ci : (i : Int) < (a0.length : Int)
  rotate_left
  · have ei : i = a0.length := by omega
    subst ei
    (repeat (first | (refine HIf.decF ci ?_; conv => whnf) | (refine HIf.no ?_; conv => whnf)))
    refine ⟨rfl, hx02.len ?_⟩
    (conv => whnf)
    refine HIf.beqT rfl ?_
    rw [woi_nofirst hne (firstS_none fun t ht => ha t ht)] at hw
    obtain ⟨g1, g2⟩ := bad h2 (E.trans E2) (woi_none hw.symm)
    subst g1
    (conv => whnf)
    refine HLit.empty ?_
    (conv => whnf)
    exact ⟨_, rfl, g2⟩
  have hi : i < a0.length := by omega
  have hsl := simpleRoot_length a0 (i : Int)
  refine HIf.decT ci ?_
  (conv => whnf)
  refine HIf.decT ci ?_
  (conv => whnf)
  refine HIf.decT ci ?_
  (conv => whnf)
  refine HIf.decT ci ?_
  (conv => whnf)
  refine (spec_SimpleRoot _ _ a0 (i : Int) hx02 s0 (by omega)).mono ?_
  rintro r h3 ⟨y3, rfl, f3⟩
  have E3 := E2.trans f3.1
  have EA := E.trans E3
  have RL3 := RL.ext E3
  (conv => whnf)
  refine HIf.decT ci ?_
  (conv => whnf)
  refine (spec_l7In _ _ left _ _ (RL3.rows EA) f3.ints (by omega)).mono ?_
  rintro r h5 ⟨rfl, hh⟩
  subst h5
  (conv => whnf)
  refine HIf.decT ci ?_
  (conv => whnf)
  refine HIf.decT ci ?_
  (conv => whnf)
  refine HIf.bnot (HIf.dec (fun hin => ?_) (fun hnin => ?_))
  rotate_left
  · (conv => whnf)
    refine HArith.fits (by omega) (by omega) ?_
    (conv => whnf)
    refine ⟨⟨i + 1, rfl, by omega, E3, fun t ht => ?_⟩, by show a0.length - (i + 1) < a0.length - i; omega⟩
    by_cases e : t = i
    · subst e; exact hnin
    · exact ha t (by omega)
  have hfs := firstS_at hi hin ha
  have hx03 := hx0.ext EA
  have hne' : (i : Int) ≠ (a0.length : Int) := by omega
  (conv => whnf)
  refine ⟨rfl, hx03.len ?_⟩
  (conv => whnf)
  refine HIf.beqF hne' ?_
  have O3 := Oz.ext E3
  have hr1l := O3.lt
  have E5p := Ext.push h3 [Row.own []]
  (conv => whnf)
  refine HLit.empty ?_
  (conv => whnf)
  refine HLoop.intro [11, 10] [48, 49, 50, 51, 54, 55, 56, 57, 58, 59, 60, 12, 63, 64, 65, 66, 67, 68, 69, 70, 62, 72, 73, 74, 75, 76, 77, 78, 79, 80, 71, 81, 82, 83, 84, 10, 61, 4, 5, 52, 53, 11] (by kernel_rfl) (by kernel_rfl) (fun vs h' => ∃ (k : Nat) (y : H0) (R : List (List Int)), vs = [I k, .s y] ∧ k ≤ left.length ∧ Ext h3 h' ∧ OwnM h3.length h'.length h' y R ∧ nextTo a0 i left k = some R ∧ R.length ≤ k ∧ tot R ≤ tot (left.take k)) (fun vs _ => left.length - natAt vs 0) ⟨0, _, [], rfl, by omega, E5p, OwnM.none h3, rfl, by simp, by simp⟩ ?_
  rintro vs h6 ⟨k, y, R, rfl, hk, E6, OM, hnx, hRl, hRt⟩
  have E56 := EA.trans E6
  have RLr := (RL3.ext E6).rows E56
  have htl := tot_take_le left k
  (conv => whnf)
  refine ⟨rfl, RLr.len ?_⟩
  (conv => whnf)
  refine HIf.dec (fun hlt => ?_) (fun hge => ?_)
  · have hle := len_le_tot (L := left) (i := k) (by omega)
    have hts := tot_succ left k (by omega)
    have hrr := reflectRoot_length a0 (i : Int) (left.getD k [])
    have hx06 := hx0.ext E56
    (conv => whnf)
    refine ⟨rfl, Rows.idxN RLr (by omega) (fun p z hp hz => ?_)⟩
    (conv => whnf)
    refine ⟨rfl, hp.load ?_⟩
    (conv => whnf)
    refine (spec_ReflectRoot _ _ a0 (i : Int) _ _ hx06 hz s0 (by omega) (by omega)).mono ?_
    rintro v h7 ⟨y7, rfl, f7⟩
    (conv => whnf)
    refine Or.inr (Or.inr (Or.inl (Exists.intro 9 (Exists.intro [0, 1, 2, 3, 4, 5] (Exists.intro [6, 7, 8] (And.intro (show heldOk _ _ _ _ = true by kernel_rfl) ?_)))))); (conv => whnf)
    refine ⟨rfl, Rows.idxN (RLr.ext f7.1) (by omega) (fun p2 z2 hp2 hz2 => ?_)⟩
    (conv => whnf)
    refine ⟨rfl, hp2.load ?_⟩
    (conv => whnf)
    refine HCallF.fresh (spec_SimpleRoot _ _ a0 (i : Int) (hx06.ext f7.1).frz s0 (by omega)) (fun h8 y8 f8 => ?_)
    (conv => whnf)
    refine HCallF.same (B (decide (left.getD k [] = simpleRoot a0 (i : Nat)))) (spec_EqualWords _ _ _ _ _ (hz2.ext f8.1).frz f8.ints.frz (by omega)) (fun x h' hR => hR) ?_
    have E78 := f7.1.trans f8.1
    have hE8 := f8.1.1
    (conv => whnf)
    refine HIf.dec (fun heq => ?_) (fun hneq => ?_)
    · have hs := nextTo_skip hnx heq
      have hE78 := E78.1
      (conv => whnf)
      refine HArith.fits (by omega) (by omega) ?_
      (conv => whnf)
      exact ⟨⟨k + 1, y, R, rfl, by omega, E6.trans E78, (OM.ext E78).widen hE78, hs, by omega, by omega⟩, by show left.length - (k + 1) < left.length - k; omega⟩
    (conv => whnf)
    refine (spec_RootSign _ _ _ (f7.ints.ext f8.1) (by omega)).mono ?_
    rintro v h9 ⟨hv, hh⟩
    subst h9
    have hsc := rootSign_cases (reflectRoot a0 (i : Int) (left.getD k []))
    have hbad := fun h3 => nextTo_bad (c := a0) hnx hneq h3
    have hadd := nextTo_add (c := a0) hnx hneq
    generalize rootSign (reflectRoot a0 (i : Int) (left.getD k [])) = sg at *
    subst hv
    (conv => whnf)
    by_cases hsg : sg > 0
    · have hsg1 : sg = 1 := by omega
      refine HIf.decT hsg ?_
      (conv => whnf)
      refine HIf.decT hsg ?_
      (conv => whnf)
      refine HIf.decT hsg ?_
      (conv => whnf)
      refine (spec_l7In _ _ R _ _ (OM.ext E78).rows (f7.ints.ext f8.1) (by omega)).mono ?_
      rintro v h9 ⟨rfl, hh⟩
      subst h9
      (conv => whnf)
      refine HIf.decT hsg ?_
      (conv => whnf)
      refine HIf.decT hsg ?_
      (conv => whnf)
      refine HIf.bnot (HIf.dec (fun hmem => ?_) (fun hnmem => ?_))
      · rw [woi_nonext hne hfs (nextTo_none (hbad (Or.inr hmem)) _ (by omega))] at hw
        obtain ⟨g1, g2⟩ := bad h8 (E56.trans E78) (woi_none hw.symm)
        subst g1
        (conv => whnf)
        refine HLit.empty ?_
        (conv => whnf)
        exact ⟨_, rfl, g2⟩
      · have hs := hadd hsg1 hnmem
        have O8 := f7.own.ext f8.1
        have hta := tot_app R (reflectRoot a0 (i : Int) (left.getD k []))
        (conv => whnf)
        refine HLit.row O8.one ?_
        (conv => whnf)
        refine ⟨rfl, rfl, HApp.snocM E6 OM E78 (O8.widen hE8) (by omega) (fun h9 y9 E9 O9 => ?_)⟩
        (conv => whnf)
        refine HArith.fits (by omega) (by omega) ?_
        (conv => whnf)
        exact ⟨⟨k + 1, y9, _, rfl, by omega, E9, O9, hs, by simp; omega, by omega⟩, by show left.length - (k + 1) < left.length - k; omega⟩
    · rw [woi_nonext hne hfs (nextTo_none (hbad (Or.inl (by omega))) _ (by omega))] at hw
      obtain ⟨g1, g2⟩ := bad h8 (E56.trans E78) (woi_none hw.symm)
      subst g1
      (repeat (first | (refine HIf.decF hsg ?_; conv => whnf) | (refine HIf.no ?_; conv => whnf)))
      refine HLit.empty ?_
      (conv => whnf)
      exact ⟨_, rfl, g2⟩
  · have e : k = left.length := by omega
    subst e
    rw [List.take_length] at hRt
    rw [woi_next hne hfs hnx] at hw
    have O6 := O3.ext E6
    have hE6 := E6.1
    have hE3 := EA.1
    have hol : (out ++ [(i : Int)]).length = out.length + 1 := by simp
    (conv => whnf)
    refine HLit.one ?_
    (conv => whnf)
    refine ⟨rfl, rfl, HApp.snocR O6 (by omega) (fun h7 r7 y7 B7 hr7 O7 => ?_)⟩
    have E7 := E56.but B7 hr1
    have hB := B7.1
    have OM7 := OM.but B7 (Or.inl hr1l)
    (conv => whnf)
    refine HArith.to (e' := ((out ++ [(i : Int)]).length : Nat)) (by omega) (by omega) (by omega) ?_
    (conv => whnf)
    exact ⟨⟨y, y7, r7, R, out ++ [(i : Int)], rfl, E7, by omega, O7, Or.inr ⟨h3.length, h6.length, by omega, Or.inr hr7, OM7⟩, by omega, by omega, by omega, by rw [← hw, hol]; congr 1; omega⟩, by show 17 - (out ++ [(i : Int)]).length < 17 - out.length; omega⟩

theorem impl_IsInversionSet (h : Heap) (x0 : H0) (a0 : List (List Int)) (x1 : H0) (a1 : List (List Int)) (hx0 : Rows h x0 a0) (hx1 : Rows h x1 a1) (s0 : a0.length ≤ 1048576 ∧ tot a0 ≤ 1048576) (s1 : a1.length ≤ 1048576 ∧ tot a1 ≤ 1048576) :
    HCalls dm Tryz.prog 33 [.s x0, .s x1] h (fun r h' => r = B (isInvSet a0 a1) ∧ Ext h h') := by
  refine calls_of_hFun (m := 0) kd_ok mixed Tryz.func33 rfl (by kernel_rfl) rfl rfl (of_decide_eq_true rfl) ?_; unfold hFun; (conv => whnf)
  refine (impl_WordOfInversions _ _ a0 _ a1 hx0 hx1 s0 s1).mono ?_
  rintro r h1 ⟨y1, rfl, f1⟩
  have hwl := woiW_len a0 a1
  have hy := f1.ints
  have hx11 := hx1.ext f1.1
  (conv => whnf)
  cases hok : woiOk a0 a1
  · (repeat (first | (refine HIf.yes ?_; conv => whnf) | (refine HIf.no ?_; conv => whnf)))
    exact ⟨bEq (isInvSet_no hok), f1.1⟩
  (repeat (first | (refine HIf.yes ?_; conv => whnf) | (refine ⟨rfl, hy.len ?_⟩; conv => whnf) | (refine ⟨rfl, hx11.len ?_⟩; conv => whnf)))
  by_cases he : ((woiW a0 a1).length : Int) = (a1.length : Int)
  · (repeat (first | (refine HIf.beqT he ?_; conv => whnf)))
    refine (impl_IsReduced _ _ a0 _ _ (hx0.ext f1.1) hy s0 (by omega)).mono ?_
    rintro r h2 ⟨rfl, E2⟩
    (conv => whnf)
    (repeat (first | (refine HIf.beqT he ?_; conv => whnf)))
    exact ⟨bEq (isInvSet_on hok (by omega)), f1.1.trans E2⟩
  · (repeat (first | (refine HIf.beqF he ?_; conv => whnf)))
    exact ⟨bEq (isInvSet_len (by omega)), f1.1⟩

theorem spec_IsInversionSet (h : Heap) (x0 : H0) (a0 : List (List Int)) (x1 : H0) (a1 : List (List Int)) (hx0 : Rows h x0 a0) (hx1 : Rows h x1 a1) (s0 : a0.length ≤ 1048576 ∧ tot a0 ≤ 1048576) (s1 : a1.length ≤ 1048576 ∧ tot a1 ≤ 1048576) :
    HCalls dm Tryz.prog 41 [.s x0, .s x1] h (fun r h' => r = B (isInvSet a0 a1) ∧ Ext h h') := by
  refine calls_of_hFun (m := 0) kd_ok mixed Tryz.func41 rfl (by kernel_rfl) rfl rfl (of_decide_eq_true rfl) ?_; unfold hFun; (conv => whnf)
  refine (spec_WordOfInversions _ _ a0 _ a1 hx0 hx1 s0 s1).mono ?_
  rintro r h1 ⟨y1, rfl, f1⟩
  have hwl := woiW_len a0 a1
  have hy := f1.ints
  have hx11 := hx1.ext f1.1
  (conv => whnf)
  cases hok : woiOk a0 a1
  · (repeat (first | (refine HIf.yes ?_; conv => whnf) | (refine HIf.no ?_; conv => whnf)))
    exact ⟨bEq (isInvSet_no hok), f1.1⟩
  (repeat (first | (refine HIf.yes ?_; conv => whnf) | (refine ⟨rfl, hy.len ?_⟩; conv => whnf) | (refine ⟨rfl, hx11.len ?_⟩; conv => whnf)))
  by_cases he : ((woiW a0 a1).length : Int) = (a1.length : Int)
  · (repeat (first | (refine HIf.beqT he ?_; conv => whnf)))
    refine (spec_IsReduced _ _ a0 _ _ (hx0.ext f1.1) hy s0 (by omega)).mono ?_
    rintro r h2 ⟨rfl, E2⟩
    (conv => whnf)
    (repeat (first | (refine HIf.beqT he ?_; conv => whnf)))
    exact ⟨bEq (isInvSet_on hok (by omega)), f1.1.trans E2⟩
  · (repeat (first | (refine HIf.beqF he ?_; conv => whnf)))
    exact ⟨bEq (isInvSet_len (by omega)), f1.1⟩

end Go.Proofs.YtgliajcgcbnemaaGreatDoor.Hx

namespace Go.Proofs.YtgliajcgcbnemaaGreatDoor.Hx
open Go.RowKit

theorem unit_list {c : List (List Int)} {i : Nat} (_hi : i < c.length) : posOf ((List.replicate c.length (0 : Int)).set i 1) = unitP i ∧ Tame 1 ((List.replicate c.length (0 : Int)).set i 1) := by
  have key : ∀ k, ((List.replicate c.length (0 : Int)).set i 1).getD k 0 = if k = i then 1 else 0 := fun k => by
    by_cases e : k = i
    · subst e
      simp [List.getD, _hi]
    · rw [if_neg e, List.getD, List.getElem?_set_ne (fun x => e x.symm), List.getElem?_replicate]
      split <;> rfl
  exact ⟨funext key, fun k => by rw [key]; split <;> omega⟩

theorem rootAt_pos {c : List (List Int)} (hC : Cartan c) {w : List Int} (hw : lettersOk c w = true) (hl : w.length ≤ 16) {k : Nat} (hk : k < w.length) :
    posOf (rootAt c w k) = rootP c (w.take k) (w.getD k 0).toNat ∧ Tame 700000000000000000 (rootAt c w k) := by
  have p1 := letters_get hw hk
  obtain ⟨u1, u2⟩ := unit_list (c := c) (i := (w.getD k 0).toNat) (by omega)
  have hlen : (w.take k).length ≤ 15 := by rw [List.length_take]; omega
  obtain ⟨e1, e2⟩ := act_big hC (by simp) u2 (w.take k) (lettersOk_take hw k) (by omega)
  refine ⟨by unfold rootAt; rw [e1, u1]; rfl, fun t => ?_⟩
  have hp : 13 ^ (w.take k).length ≤ 13 ^ 15 := Nat.pow_le_pow_right (by omega) hlen
  have hp2 : (13 : Nat) ^ 15 ≤ 700000000000000000 := by decide
  have := e2 t
  generalize 13 ^ (w.take k).length = M at hp this
  show -700000000000000000 ≤ (rootAt c w k).getD t 0 ∧ (rootAt c w k).getD t 0 ≤ 700000000000000000
  unfold rootAt
  omega

/-- A list of the roots of a word's letters, each once. -/
def InvL (c : List (List Int)) (x : List Int) (L : List (List Int)) : Prop := L.Nodup ∧ ∀ r, r ∈ L ↔ r.length = c.length ∧ InvS c x (posOf r)

theorem invL_rootsTo {c : List (List Int)} (hC : Cartan c) {x : List Int} (hx : lettersOk c x = true) (hl : x.length ≤ 15) (P : PlayL c x.length (imageOf c x)) : InvL c x (rootsTo c x x.length) := by
  refine ⟨?_, fun r => ?_⟩
  · unfold rootsTo List.Nodup
    rw [List.pairwise_map]
    refine List.Pairwise.imp_of_mem ?_ (List.nodup_range (n := x.length))
    intro k l hk hl2 hne e
    have hk := List.mem_range.1 hk
    have hl2 := List.mem_range.1 hl2
    have e2 := congrArg posOf e
    rw [(rootAt_pos hC hx (by omega) hk).1, (rootAt_pos hC hx (by omega) hl2).1] at e2
    exact hne (root_inj hC x hx (by omega) P k l hk hl2 e2)
  · rw [invS_iff hC x hx]
    unfold rootsTo
    rw [List.mem_map]
    constructor
    · rintro ⟨k, hk, rfl⟩
      have hk := List.mem_range.1 hk
      exact ⟨rootAt_length _ _ _, k, hk, (rootAt_pos hC hx (by omega) hk).1⟩
    · rintro ⟨h1, k, hk, e⟩
      refine ⟨k, List.mem_range.2 hk, posOf_inj (by rw [rootAt_length, h1]) ?_⟩
      rw [e, (rootAt_pos hC hx (by omega) hk).1]

theorem InvL.perm {c : List (List Int)} {x : List Int} {L M : List (List Int)} (h : InvL c x L) (p : M.Perm L) : InvL c x M :=
  ⟨p.nodup_iff.2 h.1, fun r => p.mem_iff.trans (h.2 r)⟩

theorem InvL.tame {c : List (List Int)} (hC : Cartan c) {x : List Int} (hx : lettersOk c x = true) (hl : x.length ≤ 15) {L : List (List Int)} (h : InvL c x L) {r : List Int} (hr : r ∈ L) : r.length = c.length ∧ Tame 700000000000000000 r ∧ ∃ k, k < x.length ∧ posOf r = rootP c (x.take k) (x.getD k 0).toNat := by
  obtain ⟨h1, h2⟩ := (h.2 r).1 hr
  obtain ⟨k, hk, e⟩ := (invS_iff hC x hx _).1 h2
  obtain ⟨g1, g2⟩ := rootAt_pos hC hx (by omega) hk
  have : r = rootAt c x k := posOf_inj (by rw [rootAt_length, h1]) (by rw [e, g1])
  exact ⟨h1, by rw [this]; exact g2, k, hk, e⟩

theorem next_all {c : List (List Int)} {i : Nat} {L : List (List Int)} (hnd : L.Nodup) (hs : ∀ r ∈ L, r ≠ simpleRoot c (i : Nat) → rootSign (reflectRoot c (i : Nat) r) = 1) (hinj : ∀ r ∈ L, ∀ q ∈ L, reflectRoot c (i : Nat) r = reflectRoot c (i : Nat) q → r = q) :
    ∀ k, k ≤ L.length → nextTo c i L k = some (((L.take k).filter fun r => decide (r ≠ simpleRoot c (i : Nat))).map (reflectRoot c (i : Nat)))
  | 0, _ => rfl
  | k + 1, hk => by
    have ih := next_all hnd hs hinj k (by omega)
    have hm : L.getD k [] ∈ L := memL_at (k := k) (by omega) rfl
    rw [takeL_snoc L (by omega), List.filter_append, List.map_append]
    by_cases e : L.getD k [] = simpleRoot c (i : Nat)
    · rw [nextTo_skip ih e]
      have hd : decide (L.getD k [] ≠ simpleRoot c (i : Nat)) = false := decide_eq_false (not_not_intro e)
      simp only [List.filter_cons, hd, Bool.false_eq_true, if_false, List.filter_nil, List.map_nil, List.append_nil]
    · have hni : reflectRoot c (i : Nat) (L.getD k []) ∉ ((L.take k).filter fun r => decide (r ≠ simpleRoot c (i : Nat))).map (reflectRoot c (i : Nat)) := by
        intro hin
        obtain ⟨q, hq, e2⟩ := List.mem_map.1 hin
        have hq := (List.mem_filter.1 hq).1
        have := hinj q (List.mem_of_mem_take hq) _ hm e2
        rw [this] at hq
        have hn2 : (L.take (k + 1)).Nodup := hnd.sublist (List.take_sublist _ _)
        rw [takeL_snoc L (by omega), List.nodup_append] at hn2
        exact hn2.2.2 _ hq _ (by simp) rfl
      rw [nextTo_add ih e (hs _ hm e) hni]
      have hd : decide (L.getD k [] ≠ simpleRoot c (i : Nat)) = true := decide_eq_true e
      simp only [List.filter_cons, hd, if_true, List.filter_nil, List.map_cons, List.map_nil]

theorem refl_mirror {c : List (List Int)} (hC : Cartan c) {i : Nat} (hi : i < c.length) {r : List Int} (hl : r.length = c.length) : reflectRoot c (i : Nat) r = mirror c i r := by
  unfold reflectRoot
  rw [(isCartan_iff c).2 hC, decide_eq_true hl, point_nat hi]
  rfl

/-- A step of the reading: the first simple root among the inversions, what comes of the others, and a reduced word of what is left. -/
theorem inv_step {c : List (List Int)} (hC : Cartan c) {n : Nat} {x : List Int} {L : List (List Int)} (hx : lettersOk c x = true) (hxl : x.length = n + 1) (hn : n + 1 ≤ 15) (P : PlayL c (n + 1) (imageOf c x)) (hL : InvL c x L) :
    ∃ (i : Nat) (t : List Int) (R : List (List Int)), i < c.length ∧ L.length ≠ 0 ∧ firstS c L = some i ∧ nextTo c i L L.length = some R ∧ t.length = n ∧ lettersOk c t = true ∧ PlayL c n (imageOf c t) ∧ imageOf c ((i : Int) :: t) = imageOf c x ∧ InvL c t R := by
  have hPx : PlayL c x.length (imageOf c x) := by rw [hxl]; exact P
  -- a simple root
  have hfs : ∃ i, firstS c L = some i := by
    cases hf : firstS c L with
    | some i => exact ⟨i, rfl⟩
    | none =>
      exfalso
      cases x with
      | nil => simp at hxl
      | cons j x' =>
        have p1 := point_of (letters_cons.1 hx).1
        obtain ⟨s1, s2⟩ := simple_pos hC (i := j.toNat) (by omega)
        have hm : simpleRoot c ((j.toNat : Nat) : Int) ∈ L := (hL.2 _).2 ⟨by rw [s1]; simp, by rw [s2]; exact Or.inl rfl⟩
        unfold firstS at hf
        rw [List.find?_range_eq_none] at hf
        have := hf j.toNat (by omega)
        rw [decide_eq_true hm] at this
        cases this
  obtain ⟨i, hfi⟩ := hfs
  have hfi2 := hfi
  unfold firstS at hfi2
  rw [List.find?_range_eq_some] at hfi2
  obtain ⟨hmem, hir, _⟩ := hfi2
  have hmem := of_decide_eq_true hmem
  have hi : i < c.length := by simpa using hir
  have hL0 : L.length ≠ 0 := fun e => by
    rw [List.length_eq_zero_iff.1 e] at hmem
    cases hmem
  have hsp := (simple_pos hC hi).2
  have hinv : InvS c x (unitP i) := by
    have := ((hL.2 _).1 hmem).2
    rwa [hsp] at this
  have hneg := (inv_iff hC x hx (by omega) hPx _ (isRoot_unit hi) (unit_pos _ _)).1 hinv
  have hv : (imageOf c x).getD i 0 < 0 := by
    have hne := P.ne hC hi
    by_cases hlt : (imageOf c x).getD i 0 < 0
    · exact hlt
    · exfalso
      have h1 := (sign_both hC hx (by omega) (i := (i : Int)) (point_nat hi)).1 (by show 0 < (imageOf c x).getD i 0; omega)
      have h2 := (rootP_pos hC (w := x.reverse) (letters_rev hx) (by simp; omega) hi).2 (by rw [List.reverse_reverse]; exact h1)
      exact root_nz hC (isRoot_act (isRoot_unit hi) (letters_rev hx)) h2 hneg
  obtain ⟨m, t, em, htl, htw, Pt, cn⟩ := front hC P (by omega) hxl hx (i := (i : Int)) (point_nat hi) hv
  obtain rfl : m = n := by omega
  have hiw : lettersOk c ((i : Int) :: t) = true := letters_cons.2 ⟨point_nat hi, htw⟩
  have him : imageOf c ((i : Int) :: t) = imageOf c x := (lin_image hC cn.lin hx hiw (by omega) (by simp; omega)).symm
  have hsame : ∀ p, InvS c x p ↔ InvS c ((i : Int) :: t) p := inv_same hC P (by omega) ⟨hxl, hx, rfl⟩ ⟨by simp [htl], hiw, him⟩
  have hPt : PlayL c t.length (imageOf c t) := by rw [htl]; exact Pt
  -- each other root reflected
  have big := fun r (hr : r ∈ L) => hL.tame hC hx (by omega) hr
  have mp : ∀ r ∈ L, posOf (reflectRoot c (i : Nat) r) = mr c.length (ent c) i (posOf r) := fun r hr => by
    obtain ⟨h1, h2, _⟩ := big r hr
    rw [refl_mirror hC hi h1]
    exact (mirror_big hC hi (by omega) (by omega) h1 h2).1
  have pos := fun r (hr : r ∈ L) => inv_pos hC x hx (by omega) hPx _ ((hL.2 r).1 hr).2
  have hne : ∀ r ∈ L, r ≠ simpleRoot c (i : Nat) → posOf r ≠ unitP i := fun r hr h e => by
    refine h (posOf_inj ?_ (by rw [e, hsp]))
    rw [((hL.2 r).1 hr).1, ((hL.2 _).1 hmem).1]
  have hs : ∀ r ∈ L, r ≠ simpleRoot c (i : Nat) → rootSign (reflectRoot c (i : Nat) r) = 1 := fun r hr h => by
    obtain ⟨q1, q2⟩ := pos r hr
    have h1 := step_pos hC q1 q2 hi (hne r hr h)
    have h2 := isRoot_mr q1 hi
    rw [← mp r hr] at h1 h2
    have hlen : (reflectRoot c (i : Nat) r).length = c.length := by rw [reflectRoot_length]; exact ((hL.2 r).1 hr).1
    have h0 : ∀ k, 0 ≤ (reflectRoot c (i : Nat) r).getD k 0 := fun k => by
      by_cases hk : k < c.length
      · exact h1 k hk
      · rw [getD_off (by omega)]
        omega
    refine rootSign_one.2 ⟨h0, ?_⟩
    by_cases hex : ∃ k, 0 < (reflectRoot c (i : Nat) r).getD k 0
    · exact hex
    · exfalso
      refine root_nz hC h2 h1 fun k hk => ?_
      have := h0 k
      by_cases hk2 : 0 < (reflectRoot c (i : Nat) r).getD k 0
      · exact absurd ⟨k, hk2⟩ hex
      · show (reflectRoot c (i : Nat) r).getD k 0 ≤ 0
        omega
  have hinj : ∀ r ∈ L, ∀ q ∈ L, reflectRoot c (i : Nat) r = reflectRoot c (i : Nat) q → r = q := fun r hr q hq e => by
    have e2 := congrArg posOf e
    rw [mp r hr, mp q hq] at e2
    have e3 := congrArg (mr c.length (ent c) i) e2
    rw [mr_mr (matOk hC) hi, mr_mr (matOk hC) hi] at e3
    exact posOf_inj (by rw [((hL.2 r).1 hr).1, ((hL.2 q).1 hq).1]) e3
  have hnx := next_all hL.1 hs hinj L.length (Nat.le_refl _)
  rw [List.take_length] at hnx
  refine ⟨i, t, _, hi, hL0, hfi, hnx, htl, htw, Pt, him, ?_, fun r => ?_⟩
  · unfold List.Nodup
    rw [List.pairwise_map]
    refine List.Pairwise.imp_of_mem ?_ (hL.1.filter _)
    intro a b ha hb hab e
    exact hab (hinj a (List.mem_filter.1 ha).1 b (List.mem_filter.1 hb).1 e)
  · rw [List.mem_map]
    constructor
    · rintro ⟨q, hq, rfl⟩
      obtain ⟨hq, hd⟩ := List.mem_filter.1 hq
      have hd := of_decide_eq_true hd
      refine ⟨by rw [reflectRoot_length]; exact ((hL.2 q).1 hq).1, ?_⟩
      rw [mp q hq]
      exact ((hsame _).1 ((hL.2 q).1 hq).2).resolve_left (hne q hq hd)
    · rintro ⟨h1, h2⟩
      obtain ⟨k, hk, ek⟩ := (invS_iff hC t htw _).1 h2
      obtain ⟨g1, g2⟩ := rootAt_pos hC htw (by omega) hk
      have er : r = rootAt c t k := posOf_inj (by rw [rootAt_length, h1]) (by rw [ek, g1])
      have ht : Tame 700000000000000000 r := by rw [er]; exact g2
      obtain ⟨m1, m2⟩ := mirror_big hC hi (by omega) (by omega) h1 ht
      have hlen : (mirror c i r).length = c.length := by rw [mirror_length]; exact h1
      have hin : mirror c i r ∈ L := by
        refine (hL.2 _).2 ⟨hlen, (hsame _).2 (Or.inr ?_)⟩
        show InvS c t (mr c.length (ent c) i (posOf (mirror c i r)))
        rw [m1, mr_mr (matOk hC) hi]
        exact h2
      refine ⟨mirror c i r, List.mem_filter.2 ⟨hin, decide_eq_true fun e => ?_⟩, ?_⟩
      · have e2 := congrArg posOf e
        rw [m1, hsp] at e2
        have e3 := congrArg (mr c.length (ent c) i) e2
        rw [mr_mr (matOk hC) hi, mr_unit hC hi] at e3
        have := (inv_pos hC t htw (by omega) hPt _ h2).2
        rw [e3] at this
        exact unit_neg_not hi this
      · refine posOf_inj (by rw [reflectRoot_length, hlen, h1]) ?_
        rw [mp _ hin, m1, mr_mr (matOk hC) hi]

theorem woi_inv {c : List (List Int)} (hC : Cartan c) : ∀ (n : Nat) (x : List Int) (L : List (List Int)) (f : Nat) (o : List Int), lettersOk c x = true → x.length = n → n ≤ 15 → n < f → PlayL c n (imageOf c x) → InvL c x L →
    ∃ y, woi c f L o = some (o ++ y) ∧ y.length = n ∧ lettersOk c y = true ∧ imageOf c y = imageOf c x
  | 0, x, L, f, o, hx, hl, _, hf, P, hL => by
    obtain ⟨f, rfl⟩ : ∃ g, f = g + 1 := ⟨f - 1, by omega⟩
    obtain rfl := List.length_eq_zero_iff.1 hl
    have : L = [] := by
      cases L with
      | nil => rfl
      | cons a L => exact (((hL.2 a).1 (by simp)).2).elim
    subst this
    exact ⟨[], by rw [woi_done rfl, List.append_nil], rfl, rfl, rfl⟩
  | n + 1, x, L, f, o, hx, hl, hn, hf, P, hL => by
    obtain ⟨f, rfl⟩ : ∃ g, f = g + 1 := ⟨f - 1, by omega⟩
    obtain ⟨i, t, R, hi, h0, h1, h2, ht, htw, Pt, him, hR⟩ := inv_step hC hx hl hn P hL
    obtain ⟨y, e1, e2, e3, e4⟩ := woi_inv hC n t R f (o ++ [(i : Int)]) htw ht (by omega) (by omega) Pt hR
    refine ⟨(i : Int) :: y, ?_, by simp [e2], letters_cons.2 ⟨point_nat hi, e3⟩, ?_⟩
    · rw [woi_next h0 h1 h2, e1, List.append_assoc, List.singleton_append]
    · rw [imageW_cons, e4, ← imageW_cons, him]

theorem invL_inversions {c : List (List Int)} {w : List Int} (h : isWord c w = true) : InvL c (normF c w) (inversions c w) ∧ (inversions c w).length = (normF c w).length := by
  obtain ⟨P, hn, R⟩ := normF_red h
  have hC := (word_cartan h).1
  rw [inversions_on h]
  refine ⟨(invL_rootsTo hC R.2.1 hn (by rw [R.2.2]; exact P)).perm (insR_perm _), by rw [insR_length, rootsTo_length]⟩

/-- The word read off the inversions is a reduced word of the element. -/
theorem woi_inversions {c : List (List Int)} {w : List Int} (h : isWord c w = true) :
    woiOk c (inversions c w) = true ∧ areSame c (woiW c (inversions c w)) w = true ∧ isInvSet c (inversions c w) = true := by
  obtain ⟨P, hn, R⟩ := normF_red h
  have hC := (word_cartan h).1
  have hic := (isCartan_iff c).2 hC
  obtain ⟨hL, hlen⟩ := invL_inversions h
  obtain ⟨y, e1, e2, e3, e4⟩ := woi_inv hC _ (normF c w) (inversions c w) 16 [] R.2.1 rfl hn (by omega) (by rw [R.2.2]; exact P) hL
  rw [List.nil_append] at e1
  obtain ⟨g1, g2⟩ := woi_some hic e1
  rw [R.2.2] at e4
  have hy : isWord c y = true := by
    unfold isWord
    rw [hic, e3, decide_eq_true (show y.length ≤ 15 by omega)]
    rfl
  refine ⟨g1, ?_, ?_⟩
  · unfold areSame
    rw [g2, hy, h, e4, decide_eq_true rfl]
    rfl
  · have hl2 : (woiW c (inversions c w)).length = (inversions c w).length := by rw [g2, e2, hlen]
    rw [isInvSet_on g1 hl2, g2]
    unfold isReduced
    rw [hy]
    have : normF c y = normF c w := by unfold normF; rw [e4]
    rw [this, e2, decide_eq_true rfl]
    rfl

end Go.Proofs.YtgliajcgcbnemaaGreatDoor.Hx

namespace Go.Proofs.YtgliajcgcbnemaaGreatDoor.Hx
open Go.RowKit
variable {dm : Bool}

/-- A call in a region that draws its order: whatever it says of rows of one's own that it makes. -/
theorem HCallF.soft {P : Program} {k : FuncId} {args : List HV} {h : Heap} {K : HV → Heap → Prop} {Q : HV → Heap → Prop} (hc : HCalls dm P k args (freeze h) (fun r h' => Ext (freeze h) h' ∧ Q r h'))
    (hK : ∀ r h' h'', Q r h' → Ext (freeze h) h' → Ext h h'' → h''.length = h'.length → (∀ (q : Nat) (cs : List H0), h.length ≤ q → h'[q]? = some (Row.own cs) → h''[q]? = some (Row.own cs)) → K r h'') : HCallF dm P k args h K := by
  refine ⟨⟨hc.enters, fun B0 φ w vargs R a => (hc.out B0 φ w vargs R a).mono ?_⟩⟩
  rintro e w' ⟨v, x, h', φ', rfl, ⟨E, hq⟩, g2, g3, g4, g5⟩
  have hfl := freeze_length h
  have hEl := E.1
  have hget : ∀ (q : Nat) (x : Row), (freeze h ++ (h'.drop h.length).map softRow)[q]? = some x → x ≠ .gone → h'[q]? = some x := fun q x hx hne => by
    by_cases hq : q < h.length
    · rw [List.getElem?_append_left (by omega)] at hx
      rw [E.2 q (by omega)]
      exact hx
    · rw [List.getElem?_append_right (by omega), List.getElem?_map, List.getElem?_drop] at hx
      have e : h.length + (q - (freeze h).length) = q := by omega
      rw [e] at hx
      cases hh : h'[q]? with
      | none => rw [hh] at hx; cases hx
      | some z =>
        rw [hh] at hx
        cases z <;> simp [softRow] at hx
        · exact absurd hx.symm hne
        · rw [hx]
        · exact absurd hx.symm hne
        · rw [hx]
  refine ⟨v, x, freeze h ++ (h'.drop h.length).map softRow, φ', rfl, ⟨(h'.drop h.length).map softRow, rfl, fun z hz => ?_, hK x h' _ hq E (Ext.push _ _) (by simp; omega) (fun q cs hql hcs => ?_)⟩, g2, ?_, g4, g5⟩
  · obtain ⟨z0, _, rfl⟩ := List.mem_map.1 hz
    cases z0 <;> rfl
  · rw [List.getElem?_append_right (by omega), List.getElem?_map, List.getElem?_drop]
    have e : h.length + (q - h.length) = q := by omega
    rw [e, hcs]
    rfl
  · exact g3.soft (by simp; omega) (fun q cs hq => hget q _ hq (by simp)) (fun q cs hq => hget q _ hq (by simp)) (fun q so ks hq => hget q _ hq (by simp))

theorem HCallF.mat {P : Program} {k : FuncId} {args : List HV} {h : Heap} {K : HV → Heap → Prop} {L : List (List Int)} (hc : HCalls dm P k args (freeze h) (fun r h' => ∃ y, r = .s y ∧ Ext (freeze h) h' ∧ OwnM (freeze h).length h'.length h' y L))
    (hK : ∀ h' y, Ext h h' → OwnM h.length h'.length h' y L → K (.s y) h') : HCallF dm P k args h K := by
  refine HCallF.soft (Q := fun r h' => ∃ y, r = .s y ∧ OwnM (freeze h).length h'.length h' y L) (hc.mono fun r h' ⟨y, e, E, O⟩ => ⟨E, y, e, O⟩) ?_
  rintro r h' h'' ⟨y, rfl, q, ρ, rfl, g1, g2, g3, m⟩ E E2 hl hk
  rw [freeze_length] at g1
  refine hK _ _ E2 ⟨q, ρ, rfl, g1, by omega, fun i hi => ?_, m.move ?_ (fun i hi => ?_)⟩
  · have := g3 i hi
    rw [freeze_length] at this
    omega
  · obtain ⟨cs, h1, _⟩ := m.outer
    rw [h1]
    exact hk q cs g1 h1
  · obtain ⟨t, h1⟩ := m.inner i hi
    have := g3 i hi
    rw [freeze_length] at this
    rw [h1]
    exact hk _ _ this.1 h1

theorem HCallF.val {P : Program} {k : FuncId} {args : List HV} {h : Heap} {K : HV → Heap → Prop} {v : HV} (hc : HCalls dm P k args (freeze h) (fun r h' => r = v ∧ Ext (freeze h) h'))
    (hK : ∀ h', Ext h h' → K v h') : HCallF dm P k args h K := by
  refine HCallF.soft (Q := fun r _ => r = v) (hc.mono fun r h' ⟨e, E⟩ => ⟨E, e⟩) ?_
  rintro r h' h'' rfl _ E _ _
  exact hK _ E

theorem Rows.tl {h : Heap} {r off len : Nat} {L : List (List Int)} (H : Rows h (.sl r off len) L) (hl : 1 ≤ len) : Rows h (.sl r (off + 1) (len - 1)) (L.drop 1) := by
  obtain ⟨xs, h1, h2, h3⟩ := H
  have part : ∀ y, Shows h (.s y) (xs.drop 1) → Rows h y (L.drop 1) := fun y hy => ⟨xs.drop 1, hy, by simp; omega, fun i z l a b => h3 (1 + i) z l (by rw [List.getElem?_drop] at a; exact a) (by rw [List.getElem?_drop] at b; exact b)⟩
  generalize hxs : xs = X at h1 part h2
  cases h1 with
  | ro _ _ _ cs hr hl2 =>
    refine part _ ?_
    have := Shows.ro (h := h) r (off + 1) (len - 1) cs hr (by omega)
    rw [List.drop_take, List.drop_drop]
    exact this
  | own _ _ _ cs hr hl2 =>
    refine part _ ?_
    have := Shows.own (h := h) r (off + 1) (len - 1) cs hr (by omega)
    rw [List.drop_take, List.drop_drop]
    exact this

/-- A slice of slices without its first entry. -/
theorem Rows.drop1 {h : Heap} {x : H0} {L : List (List Int)} (H : Rows h x L) (hL : 1 ≤ L.length) {K : HV → Prop} (hK : ∀ y, (∀ h2, Rows h2 x L → Rows h2 y (L.drop 1)) → K (.s y)) : HSlice h (.s x) (some (I ((1 : Nat) : Int))) none K := by
  have H0 := H
  obtain ⟨xs, h1, h2, h3⟩ := H
  generalize hxs : xs = X at h1 h2
  cases h1 with
  | nils b c => simp at h2; omega
  | ro r off len cs hr hl =>
    have e : len = L.length := by simp at h2; omega
    exact ⟨len, 1, len, rfl, Or.inr ⟨.i64, rfl⟩, Or.inl ⟨rfl, rfl⟩, by omega, Or.inl (Nat.le_refl _), hK _ fun h2 H2 => H2.tl (by omega)⟩
  | own r off len cs hr hl =>
    have e : len = L.length := by simp at h2; omega
    exact ⟨len, 1, len, rfl, Or.inr ⟨.i64, rfl⟩, Or.inl ⟨rfl, rfl⟩, by omega, Or.inl (Nat.le_refl _), hK _ fun h2 H2 => H2.tl (by omega)⟩

/-! Bits -/

def bit (m i : Nat) : Bool := m / 2 ^ i % 2 == 1
def setTo (m k : Nat) : List Int := ((List.range k).filter (bit m)).map fun (i : Nat) => (i : Int)
def setB (m : Nat) : List Int := setTo m 4

theorem setTo_len (m k : Nat) : (setTo m k).length ≤ k := by
  have := List.length_filter_le (bit m) (List.range k)
  simp [setTo] at this ⊢
  exact this
theorem setTo_in {m k : Nat} (h : bit m k = true) : setTo m (k + 1) = setTo m k ++ [(k : Int)] := by
  unfold setTo
  rw [List.range_succ, List.filter_append, List.map_append, List.filter_cons_of_pos h, List.filter_nil]
  rfl
theorem setTo_out {m k : Nat} (h : bit m k = false) : setTo m (k + 1) = setTo m k := by
  unfold setTo
  rw [List.range_succ, List.filter_append, List.map_append, List.filter_cons_of_neg (by rw [h]; decide), List.filter_nil, List.map_nil, List.append_nil]
theorem setTo_all : ∀ i, i < 5 → ∀ m, m < 2 ^ i → setTo m i = setB m := by decide
def fitB (n m : Nat) : Bool := !((setB m).length == 0) && ((List.range (setB m).length).all fun k => decide (0 ≤ (setB m).getD k 0) && decide ((setB m).getD k 0 < (n : Nat))) && ((List.range (setB m).length).all fun k => k == 0 || decide ((setB m).getD (k - 1) 0 < (setB m).getD k 0))
theorem fitB_all : ((List.range 5).all fun n => (List.range (2 ^ n)).all fun m => m == 0 || fitB n m) = true := by decide
theorem setB_fits (n : Nat) (hn : n < 5) (m : Nat) (hm : m < 2 ^ n) (h1 : 1 ≤ m) : (setB m).length ≠ 0 ∧ (∀ k, k < (setB m).length → 0 ≤ (setB m).getD k 0 ∧ (setB m).getD k 0 < (n : Nat)) ∧ (∀ k, k < (setB m).length → k = 0 ∨ (setB m).getD (k - 1) 0 < (setB m).getD k 0) := by
  have h := List.all_eq_true.1 (List.all_eq_true.1 fitB_all n (List.mem_range.2 hn)) m (List.mem_range.2 hm)
  have h0 : (m == 0) = false := by simp; omega
  rw [h0, Bool.false_or] at h
  simp only [fitB, Bool.and_eq_true, Bool.not_eq_true', beq_eq_false_iff_ne] at h
  refine ⟨h.1.1, fun k hk => ?_, fun k hk => ?_⟩
  · have := List.all_eq_true.1 h.1.2 k (List.mem_range.2 hk)
    simpa only [Bool.and_eq_true, decide_eq_true_eq] using this
  · have := List.all_eq_true.1 h.2 k (List.mem_range.2 hk)
    simpa only [Bool.or_eq_true, beq_iff_eq, decide_eq_true_eq] using this
theorem shr_fact : ∀ m, m < 16 → ∀ i, i < 5 → ((m : Nat) : Int).fdiv (2 ^ (min ((i : Nat) : Int).toNat IntKind.i64.bits)) = ((m / 2 ^ i : Nat) : Int) := by decide
theorem and_fact : ∀ v, v < 16 → IntKind.i64.wrap ((BitVec.ofInt IntKind.i64.bits ((v : Nat) : Int) &&& BitVec.ofInt IntKind.i64.bits 1).toNat : Int) = ((v % 2 : Nat) : Int) := by decide
theorem shl_fact : ∀ n, n < 5 → IntKind.i64.wrap (1 * 2 ^ (min ((n : Nat) : Int).toNat IntKind.i64.bits)) = ((2 ^ n : Nat) : Int) := by decide

theorem HShl.one {n : Nat} {K : HV → Prop} (hn : n < 5) (hK : K (I ((2 ^ n : Nat) : Int))) : HShl .i64 1 (n : Int) K := ⟨by omega, by rw [shl_fact n hn]; exact hK⟩
theorem HShr.bits {m i : Nat} {K : HV → Prop} (hm : m < 16) (hi : i < 5) (hK : K (I ((m / 2 ^ i : Nat) : Int))) : HShr .i64 (m : Int) (i : Int) K := ⟨by omega, by rw [shr_fact m hm i hi]; exact hK⟩
theorem HAnd.one {v : Nat} {K : HV → Prop} (hv : v < 16) (hK : K (I ((v % 2 : Nat) : Int))) : HAnd .i64 (v : Int) 1 K := ⟨by rw [and_fact v hv]; exact hK⟩
theorem bit_one {m i : Nat} : ((((m / 2 ^ i % 2 : Nat) : Int)) == 1) = bit m i := by
  unfold bit
  by_cases h : m / 2 ^ i % 2 = 1
  · simp [h]
  · have h2 : m / 2 ^ i % 2 = 0 := by omega
    simp [h2]
theorem pow_le16 {n : Nat} (h : n < 5) : 2 ^ n ≤ 16 := by
  have : 2 ^ n ≤ 2 ^ 4 := Nat.pow_le_pow_right (by omega) (by omega)
  simpa using this
theorem div_pos_iff {m i : Nat} : (((m / 2 ^ i : Nat) : Int) > 0) ↔ ¬ m < 2 ^ i := by
  have : 0 < 2 ^ i := Nat.pow_pos (by omega)
  constructor
  · intro h h2
    rw [Nat.div_eq_of_lt h2] at h
    omega
  · intro h
    have := Nat.div_pos (Nat.le_of_not_lt h) this
    omega

/-! Matrices of some points -/

def pickRow (c : List (List Int)) (o : List Int) (i : Nat) (k : Nat) : List Int := (List.range k).map fun b => ent c i (o.getD b 0).toNat
def pickTo (c : List (List Int)) (o : List Int) (k : Nat) : List (List Int) := (List.range k).map fun a => pickRow c o (o.getD a 0).toNat o.length
def pick (c : List (List Int)) (o : List Int) : List (List Int) := pickTo c o o.length
theorem pickRow_len (c : List (List Int)) (o : List Int) (i k : Nat) : (pickRow c o i k).length = k := by simp [pickRow]
theorem pickTo_len (c : List (List Int)) (o : List Int) (k : Nat) : (pickTo c o k).length = k := by simp [pickTo]
theorem pickRow_succ (c : List (List Int)) (o : List Int) (i k : Nat) : pickRow c o i (k + 1) = pickRow c o i k ++ [ent c i (o.getD k 0).toNat] := by
  unfold pickRow
  rw [List.range_succ, List.map_append]
  rfl
theorem pickTo_succ (c : List (List Int)) (o : List Int) (k : Nat) : pickTo c o (k + 1) = pickTo c o k ++ [pickRow c o (o.getD k 0).toNat o.length] := by
  unfold pickTo
  rw [List.range_succ, List.map_append]
  rfl

/-- A square matrix of small numbers. -/
structure Sq (n : Nat) (m : List (List Int)) : Prop where
  len : m.length = n
  row : ∀ i, i < n → (m.getD i []).length = n
  low : ∀ i j, i < n → j < n → -3 ≤ ent m i j ∧ ent m i j ≤ 3

theorem pick_sq {c : List (List Int)} {o : List Int} (hC : Cartan c) (ho : ∀ k, k < o.length → 0 ≤ o.getD k 0 ∧ o.getD k 0 < c.length) : Sq o.length (pick c o) := by
  have row : ∀ i, i < o.length → (pick c o).getD i [] = pickRow c o (o.getD i 0).toNat o.length := fun i hi => by simp [pick, pickTo, List.getD, hi]
  refine ⟨pickTo_len _ _ _, fun i hi => by rw [row i hi, pickRow_len], fun i j hi hj => ?_⟩
  have e : ent (pick c o) i j = ent c (o.getD i 0).toNat (o.getD j 0).toNat := by
    unfold ent
    rw [row i hi]
    simp [pickRow, List.getD, hj, ent]
  rw [e]
  have h1 := ho i hi
  have h2 := ho j hj
  by_cases hij : (o.getD i 0).toNat = (o.getD j 0).toNat
  · rw [← hij, (matOk hC).diag _ (by omega)]
    omega
  · have := (matOk hC).off (o.getD i 0).toNat (o.getD j 0).toNat (by omega) (by omega) hij
    omega

/-! Determinants -/

def sumTo (f : Nat → Int) : Nat → Int
  | 0 => 0
  | k + 1 => sumTo f k + f k
def minTo (m : List (List Int)) (j : Nat) (k : Nat) : List (List Int) := (List.range k).map fun t => del (m.getD (t + 1) []) (j : Nat)
def sg (j : Nat) : Int := if j % 2 = 0 then 1 else -1
def detZ : Nat → List (List Int) → Int
  | 0, _ => 1
  | n + 1, m => sumTo (fun j => sg j * (ent m 0 j * detZ n (minTo m j n))) (n + 1)
def term (n : Nat) (m : List (List Int)) (j : Nat) : Int := sg j * (ent m 0 j * detZ n (minTo m j n))
theorem detZ_succ (n : Nat) (m : List (List Int)) : detZ (n + 1) m = sumTo (term n m) (n + 1) := rfl
theorem sumTo_succ (f : Nat → Int) (k : Nat) : sumTo f (k + 1) = sumTo f k + f k := rfl
theorem sg_succ (j : Nat) : sg (j + 1) = - sg j := by
  unfold sg
  by_cases h : j % 2 = 0
  · rw [if_pos h, if_neg (by omega)]
  · rw [if_neg h, if_pos (by omega)]
    rfl
theorem sg_cases (j : Nat) : sg j = 1 ∨ sg j = -1 := by
  unfold sg
  split
  · exact Or.inl rfl
  · exact Or.inr rfl
theorem minTo_len (m : List (List Int)) (j k : Nat) : (minTo m j k).length = k := by simp [minTo]
theorem minTo_succ (m : List (List Int)) (j k : Nat) : minTo m j (k + 1) = minTo m j k ++ [del (m.getD (k + 1) []) (j : Nat)] := by
  unfold minTo
  rw [List.range_succ, List.map_append]
  rfl
theorem min_sq {n j : Nat} {m : List (List Int)} (S : Sq (n + 1) m) (hj : j < n + 1) : Sq n (minTo m j n) := by
  have row : ∀ i, i < n → (minTo m j n).getD i [] = del (m.getD (i + 1) []) (j : Nat) := fun i hi => by simp [minTo, List.getD, hi]
  have dl : ∀ i, i < n → (del (m.getD (i + 1) []) (j : Nat)).length = n := fun i hi => by
    have := S.row (i + 1) (by omega)
    rw [del_at]
    simp only [List.length_append, List.length_take, List.length_drop]
    omega
  refine ⟨minTo_len _ _ _, fun i hi => by rw [row i hi]; exact dl i hi, fun i k hi hk => ?_⟩
  have hr := S.row (i + 1) (by omega)
  have hr' : (m[i + 1]?.getD []).length = n + 1 := hr
  have e : ent (minTo m j n) i k = if k < j then ent m (i + 1) k else ent m (i + 1) (k + 1) := by
    unfold ent
    rw [row i hi, del_at]
    split
    · rename_i h
      simp only [List.getD]
      rw [List.getElem?_append_left (by simp; omega), List.getElem?_take_of_lt h]
    · rename_i h
      simp only [List.getD]
      rw [List.getElem?_append_right (by simp; omega), List.getElem?_drop]
      congr 2
      simp only [List.length_take]
      have : min j (m[i + 1]?.getD []).length = j := by
        have : (m[i + 1]?.getD []).length = n + 1 := hr
        omega
      rw [this]
      omega
  rw [e]
  split
  · exact S.low _ _ (by omega) (by omega)
  · exact S.low _ _ (by omega) (by omega)
theorem mul_small {x d : Int} {b : Nat} (h1 : -3 ≤ x ∧ x ≤ 3) (h2 : -(b : Int) ≤ d ∧ d ≤ b) : -(3 * b : Int) ≤ x * d ∧ x * d ≤ 3 * b := by
  have : x = -3 ∨ x = -2 ∨ x = -1 ∨ x = 0 ∨ x = 1 ∨ x = 2 ∨ x = 3 := by omega
  rcases this with h | h | h | h | h | h | h <;> subst h <;> omega
theorem sg_mul {s x : Int} (h : s = 1 ∨ s = -1) : s * x = x ∨ s * x = -x := by
  rcases h with h | h <;> subst h <;> omega
def detB : Nat → Nat
  | 0 => 1
  | n + 1 => (n + 1) * (3 * detB n)
theorem detB_mono : detB 0 = 1 ∧ detB 1 = 3 ∧ detB 2 = 18 ∧ detB 3 = 162 ∧ detB 4 = 1944 := by decide
theorem sumTo_small {f : Nat → Int} {b : Nat} : ∀ k, (∀ j, j < k → -(b : Int) ≤ f j ∧ f j ≤ b) → -((k * b : Nat) : Int) ≤ sumTo f k ∧ sumTo f k ≤ ((k * b : Nat) : Int)
  | 0, _ => by simp [sumTo]
  | k + 1, h => by
    have h1 := sumTo_small k (fun j hj => h j (by omega))
    have h2 := h k (by omega)
    have e : (k + 1) * b = k * b + b := Nat.succ_mul k b
    rw [sumTo, e]
    generalize k * b = q at *
    omega
theorem detZ_small : ∀ (n : Nat) (m : List (List Int)), Sq n m → -(detB n : Int) ≤ detZ n m ∧ detZ n m ≤ detB n
  | 0, m, _ => by simp [detZ, detB]
  | n + 1, m, S => by
    have h := sumTo_small (f := term n m) (b := 3 * detB n) (n + 1) (fun j hj => by
      have h1 := detZ_small n _ (min_sq S hj)
      have h2 := mul_small (S.low 0 j (by omega) hj) h1
      rcases sg_mul (x := ent m 0 j * detZ n (minTo m j n)) (sg_cases j) with e | e <;> unfold term <;> rw [e] <;> omega)
    exact h
theorem term_small {n : Nat} {m : List (List Int)} (hn : n < 4) (S : Sq (n + 1) m) {j : Nat} (hj : j < n + 1) : (-162 ≤ detZ n (minTo m j n) ∧ detZ n (minTo m j n) ≤ 162) ∧ (-486 ≤ ent m 0 j * detZ n (minTo m j n) ∧ ent m 0 j * detZ n (minTo m j n) ≤ 486) ∧ (-486 ≤ term n m j ∧ term n m j ≤ 486) := by
  have h1 := detZ_small n _ (min_sq S hj)
  have hb := detB_mono
  have h3 : n = 0 ∨ n = 1 ∨ n = 2 ∨ n = 3 := by omega
  have h4 : detB n ≤ 162 := by rcases h3 with e | e | e | e <;> subst e <;> omega
  have h2 := mul_small (S.low 0 j (by omega) hj) h1
  refine ⟨by omega, by omega, ?_⟩
  rcases sg_mul (x := ent m 0 j * detZ n (minTo m j n)) (sg_cases j) with e | e <;> unfold term <;> rw [e] <;> omega
theorem sum_small {n : Nat} {m : List (List Int)} (hn : n < 4) (S : Sq (n + 1) m) {k : Nat} (hk : k ≤ n + 1) : -1944 ≤ sumTo (term n m) k ∧ sumTo (term n m) k ≤ 1944 := by
  have h := sumTo_small (f := term n m) (b := 486) k (fun j hj => (term_small hn S (by omega)).2.2)
  omega

def dt (c : List (List Int)) (m : Nat) : Int := detZ (setB m).length (pick c (setB m))
def allPos (c : List (List Int)) : Bool := (List.range (2 ^ c.length - 1)).all fun k => decide (0 < dt c (k + 1))
def isFinite (c : List (List Int)) : Bool := isCartan c && allPos c
theorem allPos_of {c : List (List Int)} (h : ∀ k, k < 2 ^ c.length - 1 → 0 < dt c (k + 1)) : allPos c = true :=
  List.all_eq_true.2 fun k hk => decide_eq_true (h k (List.mem_range.1 hk))
theorem allPos_not {c : List (List Int)} {k : Nat} (hk : k < 2 ^ c.length - 1) (h : dt c (k + 1) ≤ 0) : allPos c = false := by
  rw [Bool.eq_false_iff]
  intro ha
  have := of_decide_eq_true (List.all_eq_true.1 ha k (List.mem_range.2 hk))
  omega

end Go.Proofs.YtgliajcgcbnemaaGreatDoor.Hx
