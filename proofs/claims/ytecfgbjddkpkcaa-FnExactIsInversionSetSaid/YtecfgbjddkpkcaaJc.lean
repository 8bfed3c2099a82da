
/-
  Contracts of the word of a set of inversions, of the reference; of sets of inversions, of both.
-/
import Derived.Test.YtecfgbjddkpkcaaJb
namespace Go.Proofs.Ytecfgbjddkpkcaa.Hx
open Go.RowKit
variable {dm : Bool}

def isInvSet (c L : List (List Int)) : Bool := woiOk c L && decide ((woiW c L).length = L.length) && isReduced c (woiW c L)
theorem isInvSet_no {c L : List (List Int)} (h : woiOk c L = false) : isInvSet c L = false := by simp [isInvSet, h]
theorem isInvSet_len {c L : List (List Int)} (h : (woiW c L).length ≠ L.length) : isInvSet c L = false := by simp [isInvSet, h]
theorem isInvSet_on {c L : List (List Int)} (h : woiOk c L = true) (h2 : (woiW c L).length = L.length) : isInvSet c L = isReduced c (woiW c L) := by simp [isInvSet, h, h2]


set_option maxHeartbeats 6000000 in
theorem spec_WordOfInversions (h : Heap) (x0 : H0) (a0 : List (List Int)) (x1 : H0) (a1 : List (List Int)) (hx0 : Rows h x0 a0) (hx1 : Rows h x1 a1) (s0 : a0.length ≤ 1048576 ∧ tot a0 ≤ 1048576) (s1 : a1.length ≤ 1048576 ∧ tot a1 ≤ 1048576) :
    HCalls dm Try.prog 42 [.s x0, .s x1] h (fun r h' => ∃ y, r = T2 y (woiOk a0 a1) ∧ Fresh h h' y (woiW a0 a1)) := by
  obtain ⟨V, hV⟩ : ∃ V, V = woiOk a0 a1 := ⟨_, rfl⟩
  obtain ⟨W, hW⟩ : ∃ W, W = woiW a0 a1 := ⟨_, rfl⟩
  rw [← hV, ← hW]
  refine calls_of_hFun (m := 0) kd_ok mixed Try.func42 rfl (by kernel_rfl) rfl rfl (of_decide_eq_true rfl) ?_; unfold hFun; (conv => whnf)
  refine (spec_l2Copy _ _ a1 hx1 s1).mono ?_
  rintro r h1 ⟨y1, rfl, E1, OM1⟩
  have hE1 := E1.1
  (conv => whnf)
  have bad : ∀ h2, Ext h h2 → woiOk a0 a1 = false ∧ woiW a0 a1 = [] → V = false ∧ Fresh h (h2 ++ [Row.own []]) (.sl h2.length 0 0) W := fun h2 E hb => by
    rw [hV, hW, hb.1, hb.2]
    exact ⟨rfl, Fresh.of (E.trans (Ext.push _ _)) ((OwnR.push h2 []).own E.1)⟩
  refine HLit.empty ?_
  have Ea := E1.trans (Ext.push h1 [Row.own []])
  (conv => whnf)
  cases hic : isCartan a0
  · refine HLoop.intro [8, 6, 7] [16, 17, 18, 19, 20, 21, 24, 25, 26, 27, 4, 5, 9, 28, 29, 30, 31, 32, 33, 34, 35, 36, 37, 38, 39, 40, 41, 9, 42, 43, 44, 45, 46, 4, 5, 47, 10, 11, 48, 49, 50, 51, 54, 55, 56, 57, 58, 59, 60, 12, 63, 64, 65, 66, 67, 68, 69, 70, 62, 72, 73, 74, 75, 76, 77, 78, 79, 80, 71, 81, 82, 83, 84, 10, 61, 4, 5, 52, 53, 11, 85, 6, 86, 87, 88, 89, 7, 22, 23, 8] (by kernel_rfl) (by kernel_rfl) (fun vs h' => ∃ (x z : H0), vs = [I 0, .s x, .s z] ∧ Ext h h') (fun vs _ => 0) ⟨_, _, rfl, Ea⟩ ?_
    rintro vs h' ⟨x, z, rfl, E⟩
    have c0 : (0 : Int) ≤ 15 := by omega
    (conv => whnf)
    (repeat (first | (refine HIf.decT c0 ?_; conv => whnf) | (refine HIf.yes ?_; conv => whnf)))
    refine (spec_IsCartan _ _ _ (hx0.ext E) (by omega)).mono ?_
    rintro r h2 ⟨rfl, hh⟩
    subst h2
    obtain ⟨g1, g2⟩ := bad h' E (woi_off hic)
    subst g1
    rw [hic]
    (conv => whnf)
    (repeat (first | (refine HIf.decT c0 ?_; conv => whnf) | (refine HIf.yes ?_; conv => whnf) | (refine HIf.no ?_; conv => whnf)))
    refine HLit.empty ?_
    (conv => whnf)
    exact ⟨_, rfl, g2⟩
  have hC := (isCartan_iff a0).1 hic
  have h4 := hC.le
  have h4p := hC.pos
  refine HLoop.intro [8, 6, 7] [16, 17, 18, 19, 20, 21, 24, 25, 26, 27, 4, 5, 9, 28, 29, 30, 31, 32, 33, 34, 35, 36, 37, 38, 39, 40, 41, 9, 42, 43, 44, 45, 46, 4, 5, 47, 10, 11, 48, 49, 50, 51, 54, 55, 56, 57, 58, 59, 60, 12, 63, 64, 65, 66, 67, 68, 69, 70, 62, 72, 73, 74, 75, 76, 77, 78, 79, 80, 71, 81, 82, 83, 84, 10, 61, 4, 5, 52, 53, 11, 85, 6, 86, 87, 88, 89, 7, 22, 23, 8] (by kernel_rfl) (by kernel_rfl) (fun vs h' => ∃ (x z : H0) (r1 : Nat) (left : List (List Int)) (out : List Int), vs = [I (out.length : Nat), .s x, .s z] ∧ Ext h h' ∧ h.length ≤ r1 ∧ OwnR r1 h' z out ∧ RdM h r1 h' x left ∧ out.length ≤ 16 ∧ left.length ≤ a1.length ∧ tot left ≤ tot a1 ∧ woi a0 (16 - out.length) left out = woi a0 16 a1 []) (fun vs _ => 17 - natAt vs 0) ⟨y1, _, h1.length, a1, [], rfl, Ea, hE1, OwnR.push h1 [], Or.inr ⟨h.length, h1.length, by simp, Or.inr (Nat.le_refl _), OM1.ext (Ext.push _ _)⟩, by simp, Nat.le_refl _, Nat.le_refl _, rfl⟩ ?_
  rintro vs h' ⟨x, z, r1, left, out, rfl, E, hr1, Oz, RL, ho16, hll, hlt, hw⟩
  have hE := E.1
  have hRL := RL.rows E
  (conv => whnf)
  by_cases c15 : (out.length : Int) ≤ 15
  rotate_left
  · have eo : out.length = 16 := by omega
    rw [eo, woi] at hw
    obtain ⟨g1, g2⟩ := bad h' E (woi_none hw.symm)
    subst g1
    (repeat (first | (refine HIf.decF c15 ?_; conv => whnf) | (refine HIf.no ?_; conv => whnf)))
    refine HLit.empty ?_
    (conv => whnf)
    exact ⟨_, rfl, g2⟩
  obtain ⟨f, hf⟩ : ∃ f, 16 - out.length = f + 1 := ⟨15 - out.length, by omega⟩
  rw [hf] at hw
  (repeat (first | (refine HIf.decT c15 ?_; conv => whnf)))
  refine (spec_IsCartan _ _ _ (hx0.ext E) (by omega)).mono ?_
  rintro r h2 ⟨rfl, hh⟩
  subst h2
  rw [hic]
  (conv => whnf)
  (repeat (first | (refine HIf.decT c15 ?_; conv => whnf) | (refine HIf.yes ?_; conv => whnf)))
  refine ⟨rfl, hRL.len ?_⟩
  (conv => whnf)
  refine HIf.beq (fun hz0 => ?_) (fun hnz => ?_)
  · rw [woi_done (by omega)] at hw
    have hs := woi_some hic hw.symm
    have g1 : V = true := hV.trans hs.1
    have g2 : W = out := hW.trans hs.2
    subst g1
    subst g2
    (conv => whnf)
    exact ⟨_, rfl, Fresh.ofRow E Oz hr1⟩
  have hne : left.length ≠ 0 := by omega
  have hx0' := hx0.ext E
  (conv => whnf)
  refine HLoop.intro [9] [28, 29, 30, 31, 32, 33, 34, 35, 36, 37, 38, 39, 40, 41, 9] (by kernel_rfl) (by kernel_rfl) (fun vs h2 => ∃ k : Nat, vs = [I k] ∧ k ≤ a0.length ∧ Ext h' h2 ∧ ∀ t : Nat, t < k → simpleRoot a0 (t : Nat) ∉ left) (fun vs _ => a0.length - natAt vs 0) ⟨0, rfl, by omega, Ext.refl _, fun t ht => by omega⟩ ?_
  rintro vs h2 ⟨i, rfl, hk, E2, ha⟩
  have hx02 := hx0'.ext E2
  (conv => whnf)
  refine ⟨rfl, hx02.len ?_⟩
  (conv => whnf)
  by_cases ci : (i : Int) < (a0.length : Int)
  rotate_left
  · have ei : i = a0.length := by omega
    subst ei
    (repeat (first | (refine HIf.decF ci ?_; conv => whnf) | (refine HIf.no ?_; conv => whnf)))
    refine ⟨rfl, hx02.len ?_⟩
    (conv => whnf)
    refine HIf.beqT rfl ?_
    rw [woi_nofirst hne (firstS_none fun t ht => ha t ht)] at hw
    obtain ⟨g1, g2⟩ := bad h2 (E.trans E2) (woi_none hw.symm)
    subst g1
    (conv => whnf)
    refine HLit.empty ?_
    (conv => whnf)
    exact ⟨_, rfl, g2⟩
  have hi : i < a0.length := by omega
  have hsl := simpleRoot_length a0 (i : Int)
  refine HIf.decT ci ?_
  (conv => whnf)
  refine HIf.decT ci ?_
  (conv => whnf)
  refine HIf.decT ci ?_
  (conv => whnf)
  refine HIf.decT ci ?_
  (conv => whnf)
  refine (spec_SimpleRoot _ _ a0 (i : Int) hx02 s0 (by omega)).mono ?_
  rintro r h3 ⟨y3, rfl, f3⟩
  have E3 := E2.trans f3.1
  have EA := E.trans E3
  have RL3 := RL.ext E3
  (conv => whnf)
  refine HIf.decT ci ?_
  (conv => whnf)
  refine (spec_l7In _ _ left _ _ (RL3.rows EA) f3.ints (by omega)).mono ?_
  rintro r h5 ⟨rfl, hh⟩
  subst h5
  (conv => whnf)
  refine HIf.decT ci ?_
  (conv => whnf)
  refine HIf.decT ci ?_
  (conv => whnf)
  refine HIf.bnot (HIf.dec (fun hin => ?_) (fun hnin => ?_))
  rotate_left
  · (conv => whnf)
    refine HArith.fits (by omega) (by omega) ?_
    (conv => whnf)
    refine ⟨⟨i + 1, rfl, by omega, E3, fun t ht => ?_⟩, by show a0.length - (i + 1) < a0.length - i; omega⟩
    by_cases e : t = i
    · subst e; exact hnin
    · exact ha t (by omega)
  have hfs := firstS_at hi hin ha
  have hx03 := hx0.ext EA
  have hne' : (i : Int) ≠ (a0.length : Int) := by omega
  (conv => whnf)
  refine ⟨rfl, hx03.len ?_⟩
  (conv => whnf)
  refine HIf.beqF hne' ?_
  have O3 := Oz.ext E3
  have hr1l := O3.lt
  have E5p := Ext.push h3 [Row.own []]
  (conv => whnf)
  refine HLit.empty ?_
  (conv => whnf)
  refine HLoop.intro [11, 10] [48, 49, 50, 51, 54, 55, 56, 57, 58, 59, 60, 12, 63, 64, 65, 66, 67, 68, 69, 70, 62, 72, 73, 74, 75, 76, 77, 78, 79, 80, 71, 81, 82, 83, 84, 10, 61, 4, 5, 52, 53, 11] (by kernel_rfl) (by kernel_rfl) (fun vs h' => ∃ (k : Nat) (y : H0) (R : List (List Int)), vs = [I k, .s y] ∧ k ≤ left.length ∧ Ext h3 h' ∧ OwnM h3.length h'.length h' y R ∧ nextTo a0 i left k = some R ∧ R.length ≤ k ∧ tot R ≤ tot (left.take k)) (fun vs _ => left.length - natAt vs 0) ⟨0, _, [], rfl, by omega, E5p, OwnM.none h3, rfl, by simp, by simp⟩ ?_
  rintro vs h6 ⟨k, y, R, rfl, hk, E6, OM, hnx, hRl, hRt⟩
  have E56 := EA.trans E6
  have RLr := (RL3.ext E6).rows E56
  have htl := tot_take_le left k
  (conv => whnf)
  refine ⟨rfl, RLr.len ?_⟩
  (conv => whnf)
  refine HIf.dec (fun hlt => ?_) (fun hge => ?_)
  · have hle := len_le_tot (L := left) (i := k) (by omega)
    have hts := tot_succ left k (by omega)
    have hrr := reflectRoot_length a0 (i : Int) (left.getD k [])
    have hx06 := hx0.ext E56
    (conv => whnf)
    refine ⟨rfl, Rows.idxN RLr (by omega) (fun p z hp hz => ?_)⟩
    (conv => whnf)
    refine ⟨rfl, hp.load ?_⟩
    (conv => whnf)
    refine (spec_ReflectRoot _ _ a0 (i : Int) _ _ hx06 hz s0 (by omega) (by omega)).mono ?_
    rintro v h7 ⟨y7, rfl, f7⟩
    (conv => whnf)
    refine Or.inr (Or.inr (Or.inl (Exists.intro 9 (Exists.intro [0, 1, 2, 3, 4, 5] (Exists.intro [6, 7, 8] (And.intro (show heldOk _ _ _ _ = true by kernel_rfl) ?_)))))); (conv => whnf)
    refine ⟨rfl, Rows.idxN (RLr.ext f7.1) (by omega) (fun p2 z2 hp2 hz2 => ?_)⟩
    (conv => whnf)
    refine ⟨rfl, hp2.load ?_⟩
    (conv => whnf)
    refine HCallF.fresh (spec_SimpleRoot _ _ a0 (i : Int) (hx06.ext f7.1).frz s0 (by omega)) (fun h8 y8 f8 => ?_)
    (conv => whnf)
    refine HCallF.same (B (decide (left.getD k [] = simpleRoot a0 (i : Nat)))) (spec_EqualWords _ _ _ _ _ (hz2.ext f8.1).frz f8.ints.frz (by omega)) (fun x h' hR => hR) ?_
    have E78 := f7.1.trans f8.1
    have hE8 := f8.1.1
    (conv => whnf)
    refine HIf.dec (fun heq => ?_) (fun hneq => ?_)
    · have hs := nextTo_skip hnx heq
      have hE78 := E78.1
      (conv => whnf)
      refine HArith.fits (by omega) (by omega) ?_
      (conv => whnf)
      exact ⟨⟨k + 1, y, R, rfl, by omega, E6.trans E78, (OM.ext E78).widen hE78, hs, by omega, by omega⟩, by show left.length - (k + 1) < left.length - k; omega⟩
    (conv => whnf)
    refine (spec_RootSign _ _ _ (f7.ints.ext f8.1) (by omega)).mono ?_
    rintro v h9 ⟨hv, hh⟩
    subst h9
    have hsc := rootSign_cases (reflectRoot a0 (i : Int) (left.getD k []))
    have hbad := fun h3 => nextTo_bad (c := a0) hnx hneq h3
    have hadd := nextTo_add (c := a0) hnx hneq
    generalize rootSign (reflectRoot a0 (i : Int) (left.getD k [])) = sg at *
    subst hv
    (conv => whnf)
    by_cases hsg : sg > 0
    · have hsg1 : sg = 1 := by omega
      refine HIf.decT hsg ?_
      (conv => whnf)
      refine HIf.decT hsg ?_
      (conv => whnf)
      refine HIf.decT hsg ?_
      (conv => whnf)
      refine (spec_l7In _ _ R _ _ (OM.ext E78).rows (f7.ints.ext f8.1) (by omega)).mono ?_
      rintro v h9 ⟨rfl, hh⟩
      subst h9
      (conv => whnf)
      refine HIf.decT hsg ?_
      (conv => whnf)
      refine HIf.decT hsg ?_
      (conv => whnf)
      refine HIf.bnot (HIf.dec (fun hmem => ?_) (fun hnmem => ?_))
      · rw [woi_nonext hne hfs (nextTo_none (hbad (Or.inr hmem)) _ (by omega))] at hw
        obtain ⟨g1, g2⟩ := bad h8 (E56.trans E78) (woi_none hw.symm)
        subst g1
        (conv => whnf)
        refine HLit.empty ?_
        (conv => whnf)
        exact ⟨_, rfl, g2⟩
      · have hs := hadd hsg1 hnmem
        have O8 := f7.own.ext f8.1
        have hta := tot_app R (reflectRoot a0 (i : Int) (left.getD k []))
        (conv => whnf)
        refine HLit.row O8.one ?_
        (conv => whnf)
        refine ⟨rfl, rfl, HApp.snocM E6 OM E78 (O8.widen hE8) (by omega) (fun h9 y9 E9 O9 => ?_)⟩
        (conv => whnf)
        refine HArith.fits (by omega) (by omega) ?_
        (conv => whnf)
        exact ⟨⟨k + 1, y9, _, rfl, by omega, E9, O9, hs, by simp; omega, by omega⟩, by show left.length - (k + 1) < left.length - k; omega⟩
    · rw [woi_nonext hne hfs (nextTo_none (hbad (Or.inl (by omega))) _ (by omega))] at hw
      obtain ⟨g1, g2⟩ := bad h8 (E56.trans E78) (woi_none hw.symm)
      subst g1
      (repeat (first | (refine HIf.decF hsg ?_; conv => whnf) | (refine HIf.no ?_; conv => whnf)))
      refine HLit.empty ?_
      (conv => whnf)
      exact ⟨_, rfl, g2⟩
  · have e : k = left.length := by omega
    subst e
    rw [List.take_length] at hRt
    rw [woi_next hne hfs hnx] at hw
    have O6 := O3.ext E6
    have hE6 := E6.1
    have hE3 := EA.1
    have hol : (out ++ [(i : Int)]).length = out.length + 1 := by simp
    (conv => whnf)
    refine HLit.one ?_
    (conv => whnf)
    refine ⟨rfl, rfl, HApp.snocR O6 (by omega) (fun h7 r7 y7 B7 hr7 O7 => ?_)⟩
    have E7 := E56.but B7 hr1
    have hB := B7.1
    have OM7 := OM.but B7 (Or.inl hr1l)
    (conv => whnf)
    refine HArith.to (e' := ((out ++ [(i : Int)]).length : Nat)) (by omega) (by omega) (by omega) ?_
    (conv => whnf)
    exact ⟨⟨y, y7, r7, R, out ++ [(i : Int)], rfl, E7, by omega, O7, Or.inr ⟨h3.length, h6.length, by omega, Or.inr hr7, OM7⟩, by omega, by omega, by omega, by rw [← hw, hol]; congr 1; omega⟩, by show 17 - (out ++ [(i : Int)]).length < 17 - out.length; omega⟩

theorem impl_IsInversionSet (h : Heap) (x0 : H0) (a0 : List (List Int)) (x1 : H0) (a1 : List (List Int)) (hx0 : Rows h x0 a0) (hx1 : Rows h x1 a1) (s0 : a0.length ≤ 1048576 ∧ tot a0 ≤ 1048576) (s1 : a1.length ≤ 1048576 ∧ tot a1 ≤ 1048576) :
    HCalls dm Try.prog 22 [.s x0, .s x1] h (fun r h' => r = B (isInvSet a0 a1) ∧ Ext h h') := by
  refine calls_of_hFun (m := 0) kd_ok mixed Try.func22 rfl (by kernel_rfl) rfl rfl (of_decide_eq_true rfl) ?_; unfold hFun; (conv => whnf)
  refine (impl_WordOfInversions _ _ a0 _ a1 hx0 hx1 s0 s1).mono ?_
  rintro r h1 ⟨y1, rfl, f1⟩
  have hwl := woiW_len a0 a1
  have hy := f1.ints
  have hx11 := hx1.ext f1.1
  (conv => whnf)
  cases hok : woiOk a0 a1
  · (repeat (first | (refine HIf.yes ?_; conv => whnf) | (refine HIf.no ?_; conv => whnf)))
    exact ⟨bEq (isInvSet_no hok), f1.1⟩
  (repeat (first | (refine HIf.yes ?_; conv => whnf) | (refine ⟨rfl, hy.len ?_⟩; conv => whnf) | (refine ⟨rfl, hx11.len ?_⟩; conv => whnf)))
  by_cases he : ((woiW a0 a1).length : Int) = (a1.length : Int)
  · (repeat (first | (refine HIf.beqT he ?_; conv => whnf)))
    refine (impl_IsReduced _ _ a0 _ _ (hx0.ext f1.1) hy s0 (by omega)).mono ?_
    rintro r h2 ⟨rfl, E2⟩
    (conv => whnf)
    (repeat (first | (refine HIf.beqT he ?_; conv => whnf)))
    exact ⟨bEq (isInvSet_on hok (by omega)), f1.1.trans E2⟩
  · (repeat (first | (refine HIf.beqF he ?_; conv => whnf)))
    exact ⟨bEq (isInvSet_len (by omega)), f1.1⟩

theorem spec_IsInversionSet (h : Heap) (x0 : H0) (a0 : List (List Int)) (x1 : H0) (a1 : List (List Int)) (hx0 : Rows h x0 a0) (hx1 : Rows h x1 a1) (s0 : a0.length ≤ 1048576 ∧ tot a0 ≤ 1048576) (s1 : a1.length ≤ 1048576 ∧ tot a1 ≤ 1048576) :
    HCalls dm Try.prog 21 [.s x0, .s x1] h (fun r h' => r = B (isInvSet a0 a1) ∧ Ext h h') := by
  refine calls_of_hFun (m := 0) kd_ok mixed Try.func21 rfl (by kernel_rfl) rfl rfl (of_decide_eq_true rfl) ?_; unfold hFun; (conv => whnf)
  refine (spec_WordOfInversions _ _ a0 _ a1 hx0 hx1 s0 s1).mono ?_
  rintro r h1 ⟨y1, rfl, f1⟩
  have hwl := woiW_len a0 a1
  have hy := f1.ints
  have hx11 := hx1.ext f1.1
  (conv => whnf)
  cases hok : woiOk a0 a1
  · (repeat (first | (refine HIf.yes ?_; conv => whnf) | (refine HIf.no ?_; conv => whnf)))
    exact ⟨bEq (isInvSet_no hok), f1.1⟩
  (repeat (first | (refine HIf.yes ?_; conv => whnf) | (refine ⟨rfl, hy.len ?_⟩; conv => whnf) | (refine ⟨rfl, hx11.len ?_⟩; conv => whnf)))
  by_cases he : ((woiW a0 a1).length : Int) = (a1.length : Int)
  · (repeat (first | (refine HIf.beqT he ?_; conv => whnf)))
    refine (spec_IsReduced _ _ a0 _ _ (hx0.ext f1.1) hy s0 (by omega)).mono ?_
    rintro r h2 ⟨rfl, E2⟩
    (conv => whnf)
    (repeat (first | (refine HIf.beqT he ?_; conv => whnf)))
    exact ⟨bEq (isInvSet_on hok (by omega)), f1.1.trans E2⟩
  · (repeat (first | (refine HIf.beqF he ?_; conv => whnf)))
    exact ⟨bEq (isInvSet_len (by omega)), f1.1⟩

end Go.Proofs.Ytecfgbjddkpkcaa.Hx
