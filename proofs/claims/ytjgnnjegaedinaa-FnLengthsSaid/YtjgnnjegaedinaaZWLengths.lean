/-
  The law FnLengths walked: for every input it comes back true.
-/
import Derived.Test.YtjgnnjegaedinaaZ24
namespace Go.Proofs.Ytjgnnjegaedinaa.Hx
open Go.RowKit
variable {dm : Bool}

def jLen (x0 : H0) (l0 : List Int) : List HV → Heap → Prop := fun vs h => ∃ x c z w y, vs = [.s x0, .s x, .s z, B (isWord c w), .s y, I (lengthI c w)] ∧ Bytes h x0 l0 ∧ Rows h x c ∧ Ints h z w ∧ Small c ∧ w.length ≤ 10 ∧ Ints h y (normalForm c w)
def jWord (x0 : H0) (l0 : List Int) : List HV → Heap → Prop := fun vs h => ∃ z w, vs = [.s x0, .s z] ∧ Bytes h x0 l0 ∧ Ints h z w ∧ w.length ≤ 10

theorem lengthI_range (c : List (List Int)) (w : List Int) : -1 ≤ lengthI c w ∧ lengthI c w ≤ 31 := by
  unfold lengthI
  split
  · have := normF_le c w
    omega
  · omega


theorem spec_DrawNormalForm (h : Heap) (y : H0) (l : List Int) (hy : Bytes h y l) : HCalls dm Try.prog 26 [.s y] h (fun v h' => ∃ x L z w, v = .tup [x, z] ∧ Ext h h' ∧ RowsN (fun q => q < h.length) h' x L ∧ IntsN (fun q => q < h.length) h' z w ∧ Small L ∧ w.length ≤ 10) := by
  refine calls_of_hFun (m := 0) kd_ok mixed Try.func26 rfl (by kernel_rfl) rfl rfl (of_decide_eq_true rfl) ?_; unfold hFun; (conv => whnf)
  refine (spec_l5Any _ _ _ hy).mono ?_
  rintro v h1 ⟨x, L, z, w, rfl, rest⟩
  (conv => whnf)
  exact ⟨_, _, _, _, rfl, rest⟩

theorem spec_DrawAreSame (h : Heap) (y : H0) (l : List Int) (hy : Bytes h y l) : HCalls dm Try.prog 39 [.s y] h (fun v h' => ∃ x L z w u t, v = .tup [x, z, u] ∧ Ext h h' ∧ Rows h' x L ∧ Ints h' z w ∧ Ints h' u t ∧ Small L ∧ w.length ≤ 7 ∧ t.length ≤ 7) := by
  refine calls_of_hFun (m := 0) kd_ok mixed Try.func39 rfl (by kernel_rfl) rfl rfl (of_decide_eq_true rfl) ?_; unfold hFun; (conv => whnf)
  refine (spec_l8Two _ _ _ hy).mono ?_
  rintro v h1 ⟨x, L, z, w, u, t, rfl, rest⟩
  (conv => whnf)
  exact ⟨_, _, _, _, _, _, rfl, rest⟩

theorem spec_DrawOrderOfElement (h : Heap) (y : H0) (l : List Int) (hy : Bytes h y l) : HCalls dm Try.prog 40 [.s y] h (fun v h' => ∃ x L z w, v = .tup [x, z] ∧ Ext h h' ∧ Rows h' x L ∧ Ints h' z w ∧ Small L ∧ w.length ≤ 7) := by
  refine calls_of_hFun (m := 0) kd_ok mixed Try.func40 rfl (by kernel_rfl) rfl rfl (of_decide_eq_true rfl) ?_; unfold hFun; (conv => whnf)
  refine (spec_l8Two _ _ _ hy).mono ?_
  rintro v h1 ⟨x, L, z, w, u, t, rfl, E, R, I1, I2, S, h2, h3⟩
  (conv => whnf)
  exact ⟨_, _, _, _, rfl, E, R, I1, S, h2⟩

set_option maxHeartbeats 8000000 in
theorem law_Lengths (h : Heap) (x0 : H0) (l0 : List Int) (hx : Code0 h x0 l0) : HCalls dm Try.prog 4 [.s x0] h (fun r _ => r = B true) := by
  refine calls_of_hSeg (m := 0) [(7, [0, 3, 4, 6, 7, 9], jLen x0 l0), (1, [0, 4], jWord x0 l0)] kd_ok mixed Try.func4 rfl (by kernel_rfl) rfl rfl (of_decide_eq_true rfl) ?_; unfold hFunS; (conv => whnf)
  refine ⟨?_, ?_⟩
  · refine (laws_big _ _ _ hx).mono ?_
    rintro r h' ⟨rfl, hh⟩
    subst h'
    (conv => whnf)
    refine HIf.dec (fun _ => ?_) (fun hle => ?_)
    · (conv => whnf)
      rfl
    have hB := hx.bytes (by omega)
    clear hx
    (conv => whnf)
    refine (spec_DrawNormalForm _ _ _ hB).mono ?_
    rintro r h1 ⟨x, c, z, w, rfl, Et, R, Iw, S, lw⟩
    replace R := R.rows
    replace Iw := Iw.1
    have sz := S.sz
    have lnf := normalForm_le c w
    have ll1 := leftDescents_length c w
    have ll2 := leftDescents_length c w.reverse
    have hc5 := S.le
    replace hB := hB.ext Et
    (conv => whnf)
    refine (impl_NormalForm _ _ _ _ _ R Iw sz (by omega)).mono ?_
    rintro r h2 ⟨y1, rfl, F2⟩
    have E2 := F2.1
    have I1 := F2.ints
    have En := E2
    (conv => whnf)
    refine (spec_NormalForm _ _ _ _ _ (R.ext En) (Iw.ext En) sz (by omega)).mono ?_
    rintro r h3 ⟨y2, rfl, F3⟩
    have E3 := F3.1
    have I2 := F3.ints
    replace I1 := I1.ext E3
    replace En := En.trans E3
    (conv => whnf)
    refine (impl_LengthOf _ _ _ _ _ (R.ext En) (Iw.ext En) sz (by omega)).mono ?_
    rintro r h4 ⟨rfl, E4⟩
    replace I1 := I1.ext E4
    replace I2 := I2.ext E4
    replace En := En.trans E4
    generalize hb : isWord c w = b
    generalize hn : lengthI c w = n
    (conv => whnf)
    (repeat (first | (refine HIf.bneF rfl ?_; (conv => whnf)) | (refine HIf.yes ?_; (conv => whnf)) | (refine HIf.no ?_; (conv => whnf)) | (refine HIf.same ?_; (conv => whnf)) | (refine HIf.nsame ?_; (conv => whnf)) | (refine And.intro (show Kd.isBool _ = true from rfl) ?_; (conv => whnf))))
    refine (laws_sameInts _ _ _ _ _ I1 I2 (by omega)).mono ?_
    rintro r h5 ⟨rfl, hh⟩
    subst h5
    rw [decide_eq_true rfl]
    (conv => whnf)
    (repeat (first | (refine HIf.bneF rfl ?_; (conv => whnf)) | (refine HIf.yes ?_; (conv => whnf)) | (refine HIf.no ?_; (conv => whnf)) | (refine HIf.same ?_; (conv => whnf)) | (refine HIf.nsame ?_; (conv => whnf)) | (refine And.intro (show Kd.isBool _ = true from rfl) ?_; (conv => whnf))))
    refine (spec_LengthOf _ _ _ _ _ (R.ext En) (Iw.ext En) sz (by omega)).mono ?_
    rintro r h5 ⟨rfl, E5⟩
    rw [hn]
    replace I2 := I2.ext E5
    replace En := En.trans E5
    (conv => whnf)
    (repeat (first | (refine HIf.bneF rfl ?_; (conv => whnf)) | (refine HIf.yes ?_; (conv => whnf)) | (refine HIf.no ?_; (conv => whnf)) | (refine HIf.same ?_; (conv => whnf)) | (refine HIf.nsame ?_; (conv => whnf)) | (refine And.intro (show Kd.isBool _ = true from rfl) ?_; (conv => whnf))))
    refine (impl_LeftDescents _ _ _ _ _ (R.ext En) (Iw.ext En) sz (by omega)).mono ?_
    rintro r h6 ⟨y6, rfl, F6⟩
    have E6 := F6.1
    replace I2 := I2.ext E6
    replace En := En.trans E6
    (conv => whnf)
    (repeat (first | (refine HIf.bneF rfl ?_; (conv => whnf)) | (refine HIf.yes ?_; (conv => whnf)) | (refine HIf.no ?_; (conv => whnf)) | (refine HIf.same ?_; (conv => whnf)) | (refine HIf.nsame ?_; (conv => whnf)) | (refine And.intro (show Kd.isBool _ = true from rfl) ?_; (conv => whnf))))
    refine (spec_LeftDescents _ _ _ _ _ (R.ext En) (Iw.ext En) sz (by omega)).mono ?_
    rintro r h7 ⟨y7, rfl, F7⟩
    have E7 := F7.1
    replace I2 := I2.ext E7
    replace En := En.trans E7
    (conv => whnf)
    (repeat (first | (refine HIf.bneF rfl ?_; (conv => whnf)) | (refine HIf.yes ?_; (conv => whnf)) | (refine HIf.no ?_; (conv => whnf)) | (refine HIf.same ?_; (conv => whnf)) | (refine HIf.nsame ?_; (conv => whnf)) | (refine And.intro (show Kd.isBool _ = true from rfl) ?_; (conv => whnf))))
    refine (laws_sameInts _ _ _ _ _ (F6.ints.ext E7) F7.ints (by omega)).mono ?_
    rintro r h8 ⟨rfl, hh⟩
    subst h8
    rw [decide_eq_true rfl]
    (conv => whnf)
    (repeat (first | (refine HIf.bneF rfl ?_; (conv => whnf)) | (refine HIf.yes ?_; (conv => whnf)) | (refine HIf.no ?_; (conv => whnf)) | (refine HIf.same ?_; (conv => whnf)) | (refine HIf.nsame ?_; (conv => whnf)) | (refine And.intro (show Kd.isBool _ = true from rfl) ?_; (conv => whnf))))
    refine (impl_RightDescents _ _ _ _ _ (R.ext En) (Iw.ext En) sz (by omega)).mono ?_
    rintro r h8 ⟨y8, rfl, F8⟩
    have E8 := F8.1
    replace I2 := I2.ext E8
    replace En := En.trans E8
    (conv => whnf)
    (repeat (first | (refine HIf.bneF rfl ?_; (conv => whnf)) | (refine HIf.yes ?_; (conv => whnf)) | (refine HIf.no ?_; (conv => whnf)) | (refine HIf.same ?_; (conv => whnf)) | (refine HIf.nsame ?_; (conv => whnf)) | (refine And.intro (show Kd.isBool _ = true from rfl) ?_; (conv => whnf))))
    refine (spec_RightDescents _ _ _ _ _ (R.ext En) (Iw.ext En) sz (by omega)).mono ?_
    rintro r h9 ⟨y9, rfl, F9⟩
    have E9 := F9.1
    replace I2 := I2.ext E9
    replace En := En.trans E9
    (conv => whnf)
    (repeat (first | (refine HIf.bneF rfl ?_; (conv => whnf)) | (refine HIf.yes ?_; (conv => whnf)) | (refine HIf.no ?_; (conv => whnf)) | (refine HIf.same ?_; (conv => whnf)) | (refine HIf.nsame ?_; (conv => whnf)) | (refine And.intro (show Kd.isBool _ = true from rfl) ?_; (conv => whnf))))
    refine (laws_sameInts _ _ _ _ _ (F8.ints.ext E9) F9.ints (by omega)).mono ?_
    rintro r h10 ⟨rfl, hh⟩
    subst h10
    rw [decide_eq_true rfl]
    (conv => whnf)
    (repeat (first | (refine HIf.bneF rfl ?_; (conv => whnf)) | (refine HIf.yes ?_; (conv => whnf)) | (refine HIf.no ?_; (conv => whnf)) | (refine HIf.same ?_; (conv => whnf)) | (refine HIf.nsame ?_; (conv => whnf)) | (refine And.intro (show Kd.isBool _ = true from rfl) ?_; (conv => whnf))))
    refine (impl_IsReduced _ _ _ _ _ (R.ext En) (Iw.ext En) sz (by omega)).mono ?_
    rintro r h10 ⟨rfl, E10⟩
    generalize hr : isReduced c w = rr
    replace I2 := I2.ext E10
    replace En := En.trans E10
    (conv => whnf)
    (repeat (first | (refine HIf.bneF rfl ?_; (conv => whnf)) | (refine HIf.yes ?_; (conv => whnf)) | (refine HIf.no ?_; (conv => whnf)) | (refine HIf.same ?_; (conv => whnf)) | (refine HIf.nsame ?_; (conv => whnf)) | (refine And.intro (show Kd.isBool _ = true from rfl) ?_; (conv => whnf))))
    refine (spec_IsReduced _ _ _ _ _ (R.ext En) (Iw.ext En) sz (by omega)).mono ?_
    rintro r h11 ⟨rfl, E11⟩
    rw [hr]
    replace I2 := I2.ext E11
    replace En := En.trans E11
    (conv => whnf)
    (repeat (first | (refine HIf.bneF rfl ?_; (conv => whnf)) | (refine HIf.yes ?_; (conv => whnf)) | (refine HIf.no ?_; (conv => whnf)) | (refine HIf.same ?_; (conv => whnf)) | (refine HIf.nsame ?_; (conv => whnf)) | (refine And.intro (show Kd.isBool _ = true from rfl) ?_; (conv => whnf))))
    exact ⟨x, c, z, w, y2, by rw [hb, hn]; rfl, hB.ext En, R.ext En, Iw.ext En, S, lw, I2⟩
  rintro vs h' ⟨x, c, z, w, y, rfl, hB, R, Iw, S, lw, Iy⟩
  (conv => whnf)
  refine ⟨?_, ?_⟩
  · have sz := S.sz
    have hc5 := S.le
    have fin : ∀ (h3 : Heap), Ext h' h3 → jWord x0 l0 [.s x0, .s z] h3 := fun h3 E3 => ⟨z, w, rfl, hB.ext E3, Iw.ext E3, lw⟩
    have ll1 := leftDescents_length c w
    have ll2 := leftDescents_length c w.reverse
    have lnf := normalForm_le c w
    cases hw : isWord c w with
    | false =>
      (conv => whnf)
      (repeat (first | (refine HIf.bneF rfl ?_; (conv => whnf)) | (refine HIf.yes ?_; (conv => whnf)) | (refine HIf.no ?_; (conv => whnf)) | (refine HIf.same ?_; (conv => whnf)) | (refine HIf.nsame ?_; (conv => whnf)) | (refine And.intro (show Kd.isBool _ = true from rfl) ?_; (conv => whnf))))
      exact fin _ (Ext.refl _)
    | true =>
      (conv => whnf)
      (repeat (first | (refine HIf.bneF rfl ?_; (conv => whnf)) | (refine HIf.yes ?_; (conv => whnf)) | (refine HIf.no ?_; (conv => whnf)) | (refine HIf.same ?_; (conv => whnf)) | (refine HIf.nsame ?_; (conv => whnf)) | (refine And.intro (show Kd.isBool _ = true from rfl) ?_; (conv => whnf))))
      refine ⟨rfl, Iw.len ?_⟩
      (conv => whnf)
      refine HIf.yes ?_
      (conv => whnf)
      refine HIf.yes ?_
      (conv => whnf)
      refine HIf.decT (by omega) ?_
      (conv => whnf)
      refine HLoop.intro [10] [93, 94, 95, 96, 99, 100, 101, 102, 103, 104, 11, 105, 106, 107, 108, 109, 110, 12, 111, 112, 113, 114, 115, 116, 117, 118, 119, 120, 121, 122, 123, 124, 125, 126, 127, 128, 129, 130, 131, 132, 133, 134, 135, 136, 137, 138, 139, 140, 141, 142, 2, 97, 98, 10] (by kernel_rfl) (by kernel_rfl) (fun vs h2 => ∃ i : Nat, vs = [I i] ∧ Ext h' h2 ∧ i ≤ c.length) (fun vs _ => c.length - natAt vs 0) ⟨0, rfl, Ext.refl _, by omega⟩ ?_
      rintro vs h2 ⟨i, rfl, E, hi⟩
      (conv => whnf)
      refine ⟨rfl, (R.ext E).len ?_⟩
      (conv => whnf)
      refine HIf.dec (fun hlt => ?_) (fun hge => ?_)
      · have hp : isPoint c (i : Int) = true := by simp [isPoint, inRange]; omega
        obtain ⟨w1, k1, k2⟩ := length_step hw (by omega) hp
        obtain ⟨w2, m1, m2⟩ := length_right hw (by omega) hp
        have nr := lengthI_range c w
        (conv => whnf)
        refine HLit.of (xs := List.map ci [(i : Int)]) rfl (ci_one _) (by decide) ?_
        have E1 := Ext.push h2 [Row.own (List.map ci [(i : Int)])]
        have L1 : Ints (h2 ++ [Row.own (List.map ci [(i : Int)])]) (.sl h2.length 0 1) [(i : Int)] := (OwnR.push h2 [(i : Int)]).ints
        generalize h2 ++ [Row.own (List.map ci [(i : Int)])] = h3 at E1 L1 ⊢
        have En := E.trans E1
        (conv => whnf)
        refine (spec_ConcatWords _ _ _ _ _ L1 (Iw.ext En) (by simp) (by omega)).mono ?_
        rintro r h4 ⟨y4, rfl, F4⟩
        replace En := En.trans F4.1
        (conv => whnf)
        refine (impl_LengthOf _ _ _ _ _ (R.ext En) F4.ints sz (by simp; omega)).mono ?_
        rintro r h5 ⟨rfl, E5⟩
        replace En := En.trans E5
        have ek : lengthI c ([(i : Int)] ++ w) = lengthI c ((i : Int) :: w) := rfl
        rw [ek]
        generalize lengthI c ((i : Int) :: w) = k at k1 k2 ⊢
        (conv => whnf)
        refine HLit.of (xs := List.map ci [(i : Int)]) rfl (ci_one _) (by decide) ?_
        have E6 := Ext.push h5 [Row.own (List.map ci [(i : Int)])]
        have L6 : Ints (h5 ++ [Row.own (List.map ci [(i : Int)])]) (.sl h5.length 0 1) [(i : Int)] := (OwnR.push h5 [(i : Int)]).ints
        generalize h5 ++ [Row.own (List.map ci [(i : Int)])] = h6 at E6 L6 ⊢
        replace En := En.trans E6
        (conv => whnf)
        refine (spec_ConcatWords _ _ _ _ _ (Iw.ext En) L6 (by omega) (by simp)).mono ?_
        rintro r h7 ⟨y7, rfl, F7⟩
        replace En := En.trans F7.1
        (conv => whnf)
        refine (impl_LengthOf _ _ _ _ _ (R.ext En) F7.ints sz (by simp; omega)).mono ?_
        rintro r h8 ⟨rfl, E8⟩
        replace En := En.trans E8
        generalize lengthI c (w ++ [(i : Int)]) = m at m1 m2 ⊢
        generalize lengthI c w = n at *
        cases hD : decide ((i : Int) ∈ leftDescents c w) with
        | true =>
          obtain rfl : k = n - 1 := k1 (of_decide_eq_true hD)
          have hne : n - 1 ≠ n + 1 := by omega
          have hd : (!(decide (n - 1 < n) == true)) = false := by rw [decide_eq_true (by omega)]; rfl
          (conv => whnf)
          (repeat (first | (refine HIf.bneT hne ?_; (conv => whnf)) | (refine HIf.bneF rfl ?_; (conv => whnf)) | (refine HArith.fits (by omega) (by omega) ?_; (conv => whnf))))
          refine (spec_LeftDescents _ _ _ _ _ (R.ext En) (Iw.ext En) sz (by omega)).mono ?_
          rintro r h9 ⟨y9, rfl, F9⟩
          have En9 := En.trans F9.1
          (conv => whnf)
          (repeat (first | (refine HIf.bneT hne ?_; (conv => whnf)) | (refine HIf.bneF rfl ?_; (conv => whnf))))
          refine (laws_has _ _ _ (i : Int) F9.ints (by omega)).mono ?_
          rintro r h10 ⟨rfl, hh⟩
          subst h10
          rw [hD]
          cases hD2 : decide ((i : Int) ∈ leftDescents c w.reverse) with
          | true =>
            obtain rfl : m = n - 1 := m1 (of_decide_eq_true hD2)
            have hd2 : (!(decide (n - 1 < n) == true)) = false := by rw [decide_eq_true (by omega)]; rfl
            (conv => whnf)
            (repeat (first | (refine HIf.bneT hne ?_; (conv => whnf)) | (refine HIf.bneF rfl ?_; (conv => whnf)) | (refine And.intro (show Kd.isBool _ = true from rfl) ?_; (conv => whnf)) | (refine HIf.isF hd ?_; (conv => whnf))))
            refine (spec_RightDescents _ _ _ _ _ (R.ext En9) (Iw.ext En9) sz (by omega)).mono ?_
            rintro r h11 ⟨y11, rfl, F11⟩
            have En11 := En9.trans F11.1
            (conv => whnf)
            (repeat (refine HIf.isF hd ?_; (conv => whnf)))
            refine (laws_has _ _ _ (i : Int) F11.ints (by omega)).mono ?_
            rintro r h12 ⟨rfl, hh⟩
            subst h12
            rw [hD2]
            (conv => whnf)
            (repeat (first | (refine HIf.isF hd ?_; (conv => whnf)) | (refine And.intro (show Kd.isBool _ = true from rfl) ?_; (conv => whnf)) | (refine HIf.isF hd2 ?_; (conv => whnf))))
            refine HArith.fits (by omega) (by omega) ?_
            (conv => whnf)
            exact ⟨⟨i + 1, rfl, En11, by omega⟩, by show c.length - (i + 1) < c.length - i; omega⟩
          | false =>
            obtain rfl : m = n + 1 := m2 (of_decide_eq_false hD2)
            have hd2 : (!(decide (n + 1 < n) == false)) = false := by rw [decide_eq_false (by omega)]; rfl
            (conv => whnf)
            (repeat (first | (refine HIf.bneT hne ?_; (conv => whnf)) | (refine HIf.bneF rfl ?_; (conv => whnf)) | (refine And.intro (show Kd.isBool _ = true from rfl) ?_; (conv => whnf)) | (refine HIf.isF hd ?_; (conv => whnf))))
            refine (spec_RightDescents _ _ _ _ _ (R.ext En9) (Iw.ext En9) sz (by omega)).mono ?_
            rintro r h11 ⟨y11, rfl, F11⟩
            have En11 := En9.trans F11.1
            (conv => whnf)
            (repeat (refine HIf.isF hd ?_; (conv => whnf)))
            refine (laws_has _ _ _ (i : Int) F11.ints (by omega)).mono ?_
            rintro r h12 ⟨rfl, hh⟩
            subst h12
            rw [hD2]
            (conv => whnf)
            (repeat (first | (refine HIf.isF hd ?_; (conv => whnf)) | (refine And.intro (show Kd.isBool _ = true from rfl) ?_; (conv => whnf)) | (refine HIf.isF hd2 ?_; (conv => whnf))))
            refine HArith.fits (by omega) (by omega) ?_
            (conv => whnf)
            exact ⟨⟨i + 1, rfl, En11, by omega⟩, by show c.length - (i + 1) < c.length - i; omega⟩
        | false =>
          obtain rfl : k = n + 1 := k2 (of_decide_eq_false hD)
          have hd : (!(decide (n + 1 < n) == false)) = false := by rw [decide_eq_false (by omega)]; rfl
          (conv => whnf)
          (repeat (first | (refine HIf.no ?_; (conv => whnf)) | (refine HIf.bneF rfl ?_; (conv => whnf)) | (refine HArith.fits (by omega) (by omega) ?_; (conv => whnf))))
          refine (spec_LeftDescents _ _ _ _ _ (R.ext En) (Iw.ext En) sz (by omega)).mono ?_
          rintro r h9 ⟨y9, rfl, F9⟩
          have En9 := En.trans F9.1
          (conv => whnf)
          (repeat (first | (refine HIf.no ?_; (conv => whnf)) | (refine HIf.bneF rfl ?_; (conv => whnf))))
          refine (laws_has _ _ _ (i : Int) F9.ints (by omega)).mono ?_
          rintro r h10 ⟨rfl, hh⟩
          subst h10
          rw [hD]
          cases hD2 : decide ((i : Int) ∈ leftDescents c w.reverse) with
          | true =>
            obtain rfl : m = n - 1 := m1 (of_decide_eq_true hD2)
            have hd2 : (!(decide (n - 1 < n) == true)) = false := by rw [decide_eq_true (by omega)]; rfl
            (conv => whnf)
            (repeat (first | (refine HIf.no ?_; (conv => whnf)) | (refine HIf.bneF rfl ?_; (conv => whnf)) | (refine And.intro (show Kd.isBool _ = true from rfl) ?_; (conv => whnf)) | (refine HIf.isF hd ?_; (conv => whnf))))
            refine (spec_RightDescents _ _ _ _ _ (R.ext En9) (Iw.ext En9) sz (by omega)).mono ?_
            rintro r h11 ⟨y11, rfl, F11⟩
            have En11 := En9.trans F11.1
            (conv => whnf)
            (repeat (refine HIf.isF hd ?_; (conv => whnf)))
            refine (laws_has _ _ _ (i : Int) F11.ints (by omega)).mono ?_
            rintro r h12 ⟨rfl, hh⟩
            subst h12
            rw [hD2]
            (conv => whnf)
            (repeat (first | (refine HIf.isF hd ?_; (conv => whnf)) | (refine And.intro (show Kd.isBool _ = true from rfl) ?_; (conv => whnf)) | (refine HIf.isF hd2 ?_; (conv => whnf))))
            refine HArith.fits (by omega) (by omega) ?_
            (conv => whnf)
            exact ⟨⟨i + 1, rfl, En11, by omega⟩, by show c.length - (i + 1) < c.length - i; omega⟩
          | false =>
            obtain rfl : m = n + 1 := m2 (of_decide_eq_false hD2)
            have hd2 : (!(decide (n + 1 < n) == false)) = false := by rw [decide_eq_false (by omega)]; rfl
            (conv => whnf)
            (repeat (first | (refine HIf.no ?_; (conv => whnf)) | (refine HIf.bneF rfl ?_; (conv => whnf)) | (refine And.intro (show Kd.isBool _ = true from rfl) ?_; (conv => whnf)) | (refine HIf.isF hd ?_; (conv => whnf))))
            refine (spec_RightDescents _ _ _ _ _ (R.ext En9) (Iw.ext En9) sz (by omega)).mono ?_
            rintro r h11 ⟨y11, rfl, F11⟩
            have En11 := En9.trans F11.1
            (conv => whnf)
            (repeat (refine HIf.isF hd ?_; (conv => whnf)))
            refine (laws_has _ _ _ (i : Int) F11.ints (by omega)).mono ?_
            rintro r h12 ⟨rfl, hh⟩
            subst h12
            rw [hD2]
            (conv => whnf)
            (repeat (first | (refine HIf.isF hd ?_; (conv => whnf)) | (refine And.intro (show Kd.isBool _ = true from rfl) ?_; (conv => whnf)) | (refine HIf.isF hd2 ?_; (conv => whnf))))
            refine HArith.fits (by omega) (by omega) ?_
            (conv => whnf)
            exact ⟨⟨i + 1, rfl, En11, by omega⟩, by show c.length - (i + 1) < c.length - i; omega⟩
      · obtain ⟨f1, f2, f3⟩ := form_facts hw
        (conv => whnf)
        refine (impl_AreSame _ _ _ _ _ _ _ (R.ext E) (Iw.ext E) (Iy.ext E) sz (by omega) (by omega)).mono ?_
        rintro r h3 ⟨rfl, E3⟩
        rw [f1]
        replace E := E.trans E3
        (conv => whnf)
        (repeat (first | (refine HIf.bneF rfl ?_; (conv => whnf)) | (refine HIf.yes ?_; (conv => whnf)) | (refine HIf.no ?_; (conv => whnf)) | (refine HIf.same ?_; (conv => whnf)) | (refine HIf.nsame ?_; (conv => whnf)) | (refine And.intro (show Kd.isBool _ = true from rfl) ?_; (conv => whnf))))
        refine (impl_IsReduced _ _ _ _ _ (R.ext E) (Iy.ext E) sz (by omega)).mono ?_
        rintro r h4 ⟨rfl, E4⟩
        rw [f2]
        replace E := E.trans E4
        (conv => whnf)
        (repeat (first | (refine HIf.bneF rfl ?_; (conv => whnf)) | (refine HIf.yes ?_; (conv => whnf)) | (refine HIf.no ?_; (conv => whnf)) | (refine HIf.same ?_; (conv => whnf)) | (refine HIf.nsame ?_; (conv => whnf)) | (refine And.intro (show Kd.isBool _ = true from rfl) ?_; (conv => whnf))))
        refine (impl_SignOf _ _ _ (Iw.ext E)).mono ?_
        rintro r h5 ⟨rfl, hh⟩
        subst h5
        (conv => whnf)
        (repeat (first | (refine HIf.bneF rfl ?_; (conv => whnf)) | (refine HIf.yes ?_; (conv => whnf)) | (refine HIf.no ?_; (conv => whnf)) | (refine HIf.same ?_; (conv => whnf)) | (refine HIf.nsame ?_; (conv => whnf)) | (refine And.intro (show Kd.isBool _ = true from rfl) ?_; (conv => whnf))))
        refine (impl_SignOf _ _ _ (Iy.ext E)).mono ?_
        rintro r h5 ⟨rfl, hh⟩
        subst h5
        rw [← f3]
        generalize signOf w = s
        (conv => whnf)
        (repeat (first | (refine HIf.bneF rfl ?_; (conv => whnf)) | (refine HIf.yes ?_; (conv => whnf)) | (refine HIf.no ?_; (conv => whnf)) | (refine HIf.same ?_; (conv => whnf)) | (refine HIf.nsame ?_; (conv => whnf)) | (refine And.intro (show Kd.isBool _ = true from rfl) ?_; (conv => whnf))))
        refine (spec_ReducedWords _ _ _ _ _ (R.ext E) (Iw.ext E) sz (by omega)).mono ?_
        rintro r h6 ⟨yr, rfl, E6, O6⟩
        replace E := E.trans E6
        have hrh := @reduced_head c w
        have O6 := O6.rows
        cases hro : redOk c w with
        | false =>
          (conv => whnf)
          (repeat (first | (refine HIf.bneF rfl ?_; (conv => whnf)) | (refine HIf.yes ?_; (conv => whnf)) | (refine HIf.no ?_; (conv => whnf)) | (refine HIf.same ?_; (conv => whnf)) | (refine HIf.nsame ?_; (conv => whnf)) | (refine And.intro (show Kd.isBool _ = true from rfl) ?_; (conv => whnf))))
          exact fin _ E
        | true =>
          obtain ⟨t, ht⟩ := hrh hro
          rw [ht] at O6
          (conv => whnf)
          (repeat (first | (refine HIf.bneF rfl ?_; (conv => whnf)) | (refine HIf.yes ?_; (conv => whnf)) | (refine HIf.no ?_; (conv => whnf)) | (refine HIf.same ?_; (conv => whnf)) | (refine HIf.nsame ?_; (conv => whnf)) | (refine And.intro (show Kd.isBool _ = true from rfl) ?_; (conv => whnf))))
          refine ⟨rfl, O6.idx (by omega) (by simp) (fun p y2 hp hy2 => ?_)⟩
          have hy2 : Ints h6 y2 (normalForm c w) := hy2
          (conv => whnf)
          (repeat (first | (refine HIf.bneF rfl ?_; (conv => whnf)) | (refine HIf.yes ?_; (conv => whnf)) | (refine HIf.no ?_; (conv => whnf)) | (refine HIf.same ?_; (conv => whnf)) | (refine HIf.nsame ?_; (conv => whnf)) | (refine And.intro (show Kd.isBool _ = true from rfl) ?_; (conv => whnf))))
          refine ⟨rfl, hp.load ?_⟩
          (conv => whnf)
          (repeat (first | (refine HIf.bneF rfl ?_; (conv => whnf)) | (refine HIf.yes ?_; (conv => whnf)) | (refine HIf.no ?_; (conv => whnf)) | (refine HIf.same ?_; (conv => whnf)) | (refine HIf.nsame ?_; (conv => whnf)) | (refine And.intro (show Kd.isBool _ = true from rfl) ?_; (conv => whnf))))
          refine (laws_sameInts _ _ _ _ _ hy2 (Iy.ext E) (by omega)).mono ?_
          rintro r h7 ⟨rfl, hh⟩
          subst h7
          rw [decide_eq_true rfl]
          (conv => whnf)
          (repeat (first | (refine HIf.bneF rfl ?_; (conv => whnf)) | (refine HIf.yes ?_; (conv => whnf)) | (refine HIf.no ?_; (conv => whnf)) | (refine HIf.same ?_; (conv => whnf)) | (refine HIf.nsame ?_; (conv => whnf)) | (refine And.intro (show Kd.isBool _ = true from rfl) ?_; (conv => whnf))))
          exact fin _ E
  rintro vs h' ⟨z, w, rfl, hB, Iw, lw⟩
  (conv => whnf)
  refine (spec_DrawAreSame _ _ _ hB).mono ?_
  rintro r h1 ⟨x, c, za, a, zb, b, rfl, E1, R, Ia, Ib, S, la, lb⟩
  have Et := E1
  (conv => whnf)
  refine (spec_DrawOrderOfElement _ _ _ (hB.ext Et)).mono ?_
  rintro r h2 ⟨xe, e, zf, f, rfl, E2, Re, If, Se, lf⟩
  replace Et := Et.trans E2
  have En := E2
  (conv => whnf)
  refine (impl_AreSame _ _ _ _ _ _ _ (R.ext En) (Ia.ext En) (Ib.ext En) S.sz (by omega) (by omega)).mono ?_
  rintro r h3 ⟨rfl, E3⟩
  generalize hs : areSame c a b = s
  replace En := En.trans E3
  (conv => whnf)
  refine (spec_AreSame _ _ _ _ _ _ _ (R.ext En) (Ia.ext En) (Ib.ext En) S.sz (by omega) (by omega)).mono ?_
  rintro r h4 ⟨rfl, E4⟩
  rw [hs]
  replace En := En.trans E4
  have Ef := E3.trans E4
  (conv => whnf)
  (repeat (first | (refine HIf.bneF rfl ?_; (conv => whnf)) | (refine HIf.yes ?_; (conv => whnf)) | (refine HIf.no ?_; (conv => whnf)) | (refine HIf.same ?_; (conv => whnf)) | (refine HIf.nsame ?_; (conv => whnf)) | (refine And.intro (show Kd.isBool _ = true from rfl) ?_; (conv => whnf))))
  refine (impl_OrderOfElement _ _ _ _ _ (Re.ext Ef) (If.ext Ef) Se.sz (by omega)).mono ?_
  rintro r h5 ⟨rfl, E5⟩
  generalize ho : orderOf e f = od
  replace Ef := Ef.trans E5
  (conv => whnf)
  (repeat (first | (refine HIf.bneF rfl ?_; (conv => whnf)) | (refine HIf.yes ?_; (conv => whnf)) | (refine HIf.no ?_; (conv => whnf)) | (refine HIf.same ?_; (conv => whnf)) | (refine HIf.nsame ?_; (conv => whnf)) | (refine And.intro (show Kd.isBool _ = true from rfl) ?_; (conv => whnf))))
  refine (spec_OrderOfElement _ _ _ _ _ (Re.ext Ef) (If.ext Ef) Se.sz (by omega)).mono ?_
  rintro r h6 ⟨rfl, E6⟩
  rw [ho]
  replace Ef := (E2.trans Ef).trans E6
  (conv => whnf)
  (repeat (first | (refine HIf.beqT rfl ?_; (conv => whnf)) | (refine HIf.bneF rfl ?_; (conv => whnf)) | (refine HIf.yes ?_; (conv => whnf)) | (refine HIf.no ?_; (conv => whnf)) | (refine HIf.same ?_; (conv => whnf)) | (refine HIf.nsame ?_; (conv => whnf)) | (refine And.intro (show Kd.isBool _ = true from rfl) ?_; (conv => whnf))))
  refine (impl_SignOf _ _ _ ((Iw.ext E1).ext Ef)).mono ?_
  rintro r h7 ⟨rfl, hh⟩
  subst h7
  generalize hsg : signOf w = sg
  (conv => whnf)
  (repeat (first | (refine HIf.beqT rfl ?_; (conv => whnf)) | (refine HIf.bneF rfl ?_; (conv => whnf)) | (refine HIf.yes ?_; (conv => whnf)) | (refine HIf.no ?_; (conv => whnf)) | (refine HIf.same ?_; (conv => whnf)) | (refine HIf.nsame ?_; (conv => whnf)) | (refine And.intro (show Kd.isBool _ = true from rfl) ?_; (conv => whnf))))
  refine (spec_SignOf _ _ _ ((Iw.ext E1).ext Ef)).mono ?_
  rintro r h7 ⟨rfl, hh⟩
  subst h7
  rw [hsg]
  (conv => whnf)
  (repeat (first | (refine HIf.beqT rfl ?_; (conv => whnf)) | (refine HIf.bneF rfl ?_; (conv => whnf)) | (refine HIf.yes ?_; (conv => whnf)) | (refine HIf.no ?_; (conv => whnf)) | (refine HIf.same ?_; (conv => whnf)) | (refine HIf.nsame ?_; (conv => whnf)) | (refine And.intro (show Kd.isBool _ = true from rfl) ?_; (conv => whnf))))
  exact bEq (by simp)

end Go.Proofs.Ytjgnnjegaedinaa.Hx
